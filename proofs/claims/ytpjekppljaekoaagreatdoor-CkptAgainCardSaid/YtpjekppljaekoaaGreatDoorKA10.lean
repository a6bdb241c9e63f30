/- Numerals are read as they were written; the bytes of a number tell it. A disk's files as a set; what calls on a disk that is on, with room, do to it. What Write, Read, all, Drop of package ckpt do on a disk that holds just the files of checkpoints. A range over a bound function: from the iterator's call to the statement; a round out of its body's walk. Contracts of package ckpt: right, what its iterator does. -/
import Derived.Test.YtpjekppljaekoaaGreatDoorKA09
import Derived.Test.YtpjekppljaekoaaGreatDoorKA06
namespace Go.Proofs.YtpjekppljaekoaaGreatDoor
open Go Go.RowKit

theorem parse_snoc : ∀ (l : List UInt8) (acc u : Nat) (c : UInt8), Lib.parseUint10 acc l = .ok u → 48 ≤ c.toNat → c.toNat ≤ 57 → u * 10 + (c.toNat - 48) < 9223372036854775808 → Lib.parseUint10 acc (l ++ [c]) = .ok (u * 10 + (c.toNat - 48))
  | [], acc, u, c, h, h1, h2, h3 => by
    simp only [Lib.parseUint10] at h
    injection h with h
    subst h
    simp only [List.nil_append, Lib.parseUint10]
    rw [if_pos ⟨h1, h2⟩, if_neg (by omega), if_neg (by omega)]
  | a :: l, acc, u, c, h, h1, h2, h3 => by
    simp only [List.cons_append, Lib.parseUint10] at h ⊢
    split at h
    · next g1 =>
      split at h
      · cases h
      · next g2 =>
        split at h
        · cases h
        · next g3 =>
          rw [if_pos g1, if_neg g2, if_neg g3]
          exact parse_snoc l _ u c h h1 h2 h3
    · cases h
theorem dig_toNat (d : Nat) (h : d < 10) : (UInt8.ofNat (48 + d)).toNat = 48 + d := by
  rw [UInt8.toNat_ofNat']
  omega
theorem parse_dec (u : Nat) (h : u < 9223372036854775808) : Lib.parseUint10 0 (Lib.decDigits u) = .ok u := by
  induction u using Nat.strongRecOn with
  | _ u ih =>
    by_cases h' : u < 10
    · rw [Lib.decDigits, dif_pos h']
      have e := dig_toNat u h'
      simp only [Lib.parseUint10, e]
      rw [if_pos (by omega), if_neg (by omega), if_neg (by omega)]
      congr 1
      omega
    · rw [Lib.decDigits, dif_neg h']
      have e := dig_toNat (u % 10) (by omega)
      rw [parse_snoc _ 0 (u / 10) _ (ih (u / 10) (by omega) (by omega)) (by omega) (by omega) (by omega), e]
      congr 1
      omega
theorem dec_head (u : Nat) : ∃ c r, Lib.decDigits u = c :: r ∧ 48 ≤ c.toNat ∧ c.toNat ≤ 57 := by
  induction u using Nat.strongRecOn with
  | _ u ih =>
    by_cases h' : u < 10
    · have e := dig_toNat u h'
      exact ⟨_, [], by rw [Lib.decDigits, dif_pos h'], by omega, by omega⟩
    · obtain ⟨c, r, e, h1, h2⟩ := ih (u / 10) (by omega)
      exact ⟨c, _, by rw [Lib.decDigits, dif_neg h', e]; rfl, h1, h2⟩
theorem atoi_itoa (k : Int) (h0 : 0 ≤ k) (h1 : k ≤ 1073741824) : Lib.atoiAll (Lib.itoa k) = .ok k := by
  obtain ⟨u, rfl⟩ : ∃ u : Nat, k = u := ⟨k.toNat, by omega⟩
  rw [Lib.itoa_nonneg]
  obtain ⟨c, r, e, hc1, hc2⟩ := dec_head u
  have hp := parse_dec u (by omega)
  rw [e] at hp ⊢
  have n1 : ¬ c.toNat = 43 := by omega
  have n2 : ¬ c.toNat = 45 := by omega
  simp only [Lib.atoiAll, n1, n2, or_self, if_false, Lib.parseMag, reduceCtorEq, hp, not_false_eq_true, true_and, false_and]
  rw [if_neg (by omega)]

theorem name_list (k : Int) : (nameOf k).data.toList = [99, 107, 46] ++ Lib.itoa k := by
  show (ByteArray.append _ _).data.toList = _
  simp [itoaN, ByteArray.data_append]
theorem step_name (k : Int) (h0 : 0 ≤ k) (h1 : k ≤ 1073741824) : stepOf (nameOf k) = some k := by
  have hp : Lib.hasPrefix (nameOf k).data.toList pre.data.toList = true := by
    rw [name_list]
    simp [Lib.hasPrefix, pre, List.isPrefixOf]
  have hd : (digitsOf (nameOf k)).data.toList = Lib.itoa k := by
    show (Lib.trimPrefix (nameOf k).data.toList pre.data.toList).toArray.toList = _
    unfold Lib.trimPrefix
    rw [hp, name_list]
    simp [pre]
  unfold stepOf
  rw [hp, hd, atoi_itoa k h0 h1]
  simp [h0, h1]
theorem name_of_step {nm : ByteArray} {k : Int} (h : stepOf nm = some k) : 0 ≤ k ∧ k ≤ 1073741824 ∧ nameOf k = nm := by
  unfold stepOf at h
  split at h
  · split at h
    · split at h
      · next hq => injection h with h; subst h; exact hq
      · cases h
    · cases h
  · cases h
theorem name_inj {j k : Int} (h0 : 0 ≤ j) (h1 : j ≤ 1073741824) (h2 : 0 ≤ k) (h3 : k ≤ 1073741824) (h : nameOf j = nameOf k) : j = k := by
  have a := step_name j h0 h1
  have b := step_name k h2 h3
  rw [h, b] at a
  injection a with a
  exact a.symm
theorem step_tmp : stepOf tmpN = none := by
  have h : Lib.atoiAll (digitsOf tmpN).data.toList = Lib.atoiAll [] := by decide +kernel
  unfold stepOf
  rw [h]
  split <;> rfl
theorem name_ne_tmp (k : Int) (h0 : 0 ≤ k) (h1 : k ≤ 1073741824) : nameOf k ≠ tmpN := fun e => by
  have := step_name k h0 h1
  rw [e, step_tmp] at this
  cases this
theorem nameOk_name (k : Int) (h0 : 0 ≤ k) (h1 : k ≤ 1073741824) : nameOk (nameOf k) = true := by
  have hl := name_list k
  have hs := Lib.itoa_length_le k (by omega) (by omega)
  have hsz : (nameOf k).size = (nameOf k).data.toList.length := (Array.length_toList (xs := (nameOf k).data)).symm
  unfold nameOk
  rw [hsz, ByteArray.toList_eq, hl]
  simp
  omega
theorem nameOk_tmp : nameOk tmpN = true := by decide +kernel

theorem valOf_from (l : List UInt8) : ∀ a : Int, l.foldl (fun n c => n * 256 + (c.toNat : Int)) a = a * 256 ^ l.length + valOf l := by
  induction l with
  | nil => intro a; simp [valOf]
  | cons c l ih =>
    intro a
    simp only [valOf, List.foldl_cons, List.length_cons]
    rw [ih, ih (0 * 256 + (c.toNat : Int)), Int.pow_succ, Int.add_mul, Int.zero_mul, Int.zero_add, Int.mul_assoc, Int.mul_comm 256, Int.add_assoc]
theorem valOf_cons (c : UInt8) (l : List UInt8) : valOf (c :: l) = (c.toNat : Int) * 256 ^ l.length + valOf l := by
  have := valOf_from l (0 * 256 + (c.toNat : Int))
  simp only [Int.zero_mul, Int.zero_add] at this
  simpa [valOf] using this
theorem valOf_be (k : Nat) (n : Int) : valOf (be k n) = n % 256 ^ k := by
  induction k with
  | zero => rw [Int.pow_zero, Int.emod_one]; rfl
  | succ k ih =>
    have hc : ((UInt8.ofNat (n / 256 ^ k % 256).toNat).toNat : Int) = n / 256 ^ k % 256 := by
      rw [UInt8.toNat_ofNat']
      omega
    rw [be, valOf_cons, be_length, ih, hc, Int.pow_succ]
    have hm : (0 : Int) < 256 ^ k := Int.pow_pos (by decide)
    generalize (256 : Int) ^ k = m at *
    have h1 := Int.mul_ediv_add_emod n m
    have h2 := Int.mul_ediv_add_emod (n / m) 256
    have h3 := Int.emod_nonneg n (show m ≠ 0 by omega)
    have h4 := Int.emod_lt_of_pos n hm
    have h5 := Int.emod_nonneg (n / m) (show (256 : Int) ≠ 0 by omega)
    have h6 := Int.emod_lt_of_pos (n / m) (show (0 : Int) < 256 by omega)
    generalize n / m % 256 = c at *
    generalize n % m = r at *
    generalize n / m / 256 = q at *
    generalize n / m = p at *
    subst h2
    have e : n = (c * m + r) + m * 256 * q := by
      rw [← h1, Int.mul_add, Int.mul_comm c m, ← Int.mul_assoc]
      omega
    rw [e, Int.add_mul_emod_self_left]
    have hcm : c * m ≤ 255 * m := Int.mul_le_mul_of_nonneg_right (by omega) (by omega)
    have hc0 : 0 ≤ c * m := Int.mul_nonneg h5 (by omega)
    rw [Int.emod_eq_of_lt (by omega) (by omega)]
end Go.Proofs.YtpjekppljaekoaaGreatDoor
namespace Go.Proofs.YtpjekppljaekoaaGreatDoor
open Go Go.RowKit

theorem nm_eq {a b : ByteArray} (h : (a.toList == b.toList) = true) : a = b := by
  have e := beq_iff_eq.1 h
  rw [ByteArray.toList_eq, ByteArray.toList_eq] at e
  exact ByteArray.ext (Array.toList_inj.1 e)
theorem rising_ne {fs : List FileS} (h : Rising fs) {i j : Nat} {f g : FileS} (hf : fs[i]? = some f) (hg : fs[j]? = some g) (hij : i ≠ j) : f.nm ≠ g.nm := by
  intro e
  rcases Nat.lt_or_gt_of_ne hij with h1 | h1
  · have := rising_get h h1 hf hg
    rw [e, ltN_irrefl] at this
    cases this
  · have := rising_get h h1 hg hf
    rw [e, ltN_irrefl] at this
    cases this
theorem idx_eq {fs : List FileS} (h : Rising fs) {i : Nat} {f : FileS} (hf : fs[i]? = some f) : idx fs f.nm = i :=
  idx_spec fs f.nm i (fun j g hj hg => rising_get h hj hg hf) (fun g hg => by rw [hf] at hg; cases hg; exact ltN_irrefl _) (by have := (List.getElem?_eq_some_iff.1 hf).1; omega)
theorem has_of {fs : List FileS} (h : Rising fs) {f : FileS} (hf : f ∈ fs) : has fs f.nm = true ∧ fs[idx fs f.nm]? = some f := by
  obtain ⟨i, hi⟩ := List.mem_iff_getElem?.1 hf
  have e := idx_eq h hi
  have h1 : fs[idx fs f.nm]? = some f := by rw [e]; exact hi
  refine ⟨?_, h1⟩
  rw [has_some h1]
  exact beq_self_eq_true _
theorem of_has {fs : List FileS} {nm : ByteArray} (h : has fs nm = true) : ∃ f, fs[idx fs nm]? = some f ∧ f.nm = nm ∧ f ∈ fs := by
  unfold has at h
  split at h
  · next f hf => exact ⟨f, hf, nm_eq h, List.mem_iff_getElem?.2 ⟨_, hf⟩⟩
  · cases h
theorem has_false {fs : List FileS} (h : Rising fs) {nm : ByteArray} : has fs nm = false ↔ ∀ f ∈ fs, f.nm ≠ nm := by
  constructor
  · rintro hh f hf rfl
    rw [(has_of h hf).1] at hh
    cases hh
  · intro hh
    cases hq : has fs nm with
    | false => rfl
    | true =>
      obtain ⟨f, _, e, hf⟩ := of_has hq
      exact absurd e (hh f hf)

theorem mem_insert {fs : List FileS} {i : Nat} {g f : FileS} : f ∈ insertAt fs i g ↔ f = g ∨ f ∈ fs := by
  unfold insertAt
  rw [List.mem_append, List.mem_cons]
  conv => rhs; rw [← List.take_append_drop i fs, List.mem_append]
  exact or_left_comm
theorem mem_setF {fs : List FileS} (h : Rising fs) {i : Nat} {f0 g : FileS} (hi : fs[i]? = some f0) {f : FileS} : f ∈ fs.set i g ↔ f = g ∨ (f ∈ fs ∧ f.nm ≠ f0.nm) := by
  rw [List.mem_iff_getElem?]
  constructor
  · rintro ⟨j, hj⟩
    rw [List.getElem?_set] at hj
    split at hj
    · split at hj
      · left; injection hj with hj; exact hj.symm
      · cases hj
    · next hne => exact .inr ⟨List.mem_iff_getElem?.2 ⟨j, hj⟩, rising_ne h hj hi (Ne.symm hne)⟩
  · rintro (rfl | ⟨hf, hn⟩)
    · exact ⟨i, by rw [List.getElem?_set_self (List.getElem?_eq_some_iff.1 hi).1]⟩
    · obtain ⟨j, hj⟩ := List.mem_iff_getElem?.1 hf
      refine ⟨j, ?_⟩
      rw [List.getElem?_set_ne]
      · exact hj
      · rintro rfl
        rw [hi] at hj
        cases hj
        exact hn rfl
theorem mem_eraseF {fs : List FileS} (h : Rising fs) {i : Nat} {f0 : FileS} (hi : fs[i]? = some f0) {f : FileS} : f ∈ fs.eraseIdx i ↔ f ∈ fs ∧ f.nm ≠ f0.nm := by
  rw [List.mem_eraseIdx_iff_getElem?]
  constructor
  · rintro ⟨j, hne, hj⟩
    exact ⟨List.mem_iff_getElem?.2 ⟨j, hj⟩, rising_ne h hj hi hne⟩
  · rintro ⟨hf, hn⟩
    obtain ⟨j, hj⟩ := List.mem_iff_getElem?.1 hf
    refine ⟨j, ?_, hj⟩
    rintro rfl
    rw [hi] at hj
    cases hj
    exact hn rfl

/-- On, and armed for no step. -/
def Live (s : DiskS) : Prop := s.off = false ∧ s.left = -1

theorem power_live {s : DiskS} (h : Live s) : s.power = ({ s with steps := s.steps + 1 }, 0) := by
  unfold DiskS.power
  rw [if_neg (by have := h.2; omega), if_neg (by have := h.2; omega)]
theorem asked_live {s : DiskS} (h : Live s) {l : List ByteArray} (hl : l.all nameOk = true) : s.asked l = 0 := by
  unfold DiskS.asked
  rw [h.1, hl]
  rfl

theorem read_live {s : DiskS} (h : Live s) (hr : Rising s.files) {f : FileS} (hf : f ∈ s.files) (hn : nameOk f.nm = true) : s.read f.nm = (f.l, 0) := by
  obtain ⟨h1, h2⟩ := has_of hr hf
  unfold DiskS.read
  rw [asked_live h (by simpa using hn)]
  simp [h1, List.getD, h2]
theorem read_none {s : DiskS} (h : Live s) (hr : Rising s.files) {nm : ByteArray} (hf : ∀ f ∈ s.files, f.nm ≠ nm) (hn : nameOk nm = true) : s.read nm = ([], 5) := by
  have h1 := (has_false hr).2 hf
  unfold DiskS.read
  rw [asked_live h (by simpa using hn)]
  simp [h1]
theorem append_live {s : DiskS} (h : Live s) (hr : Rising s.files) {nm : ByteArray} {b : List UInt8} (hf : ∀ f ∈ s.files, f.nm ≠ nm) (hn : nameOk nm = true) (hb : b.length ≤ 8388608) (hq : (usedL s.files : Int) + b.length ≤ s.quota) :
    s.append nm b = ({ s with files := insertAt s.files (idx s.files nm) ⟨nm, b, -1⟩, steps := s.steps + 1 }, 0) := by
  have h1 := (has_false hr).2 hf
  unfold DiskS.append
  rw [asked_live h (by simpa using hn)]
  simp only [h1, ne_eq, not_true_eq_false, if_false, Bool.false_eq_true, List.length_nil, Nat.zero_add, List.nil_append]
  rw [if_neg (by omega), if_neg (by omega), power_live]
  exact h
theorem step_live {s : DiskS} (h : Live s) (hr : Rising s.files) {kind : Nat} {nm to : ByteArray} {f : FileS} (hf : f ∈ s.files) (hnm : f.nm = nm) (hn : nameOk nm = true) (ht : nameOk to = true) :
    s.step kind nm to 0 true = ({ s with files := doesTo kind s.files (idx s.files nm) f.l.length to, steps := s.steps + 1 }, 0) := by
  subst hnm
  obtain ⟨h1, h2⟩ := has_of hr hf
  unfold DiskS.step
  rw [asked_live h (by simp [hn, ht])]
  have hg : s.files.getD (idx s.files f.nm) ⟨f.nm, [], -1⟩ = f := by simp [List.getD, h2]
  simp only [h1, ne_eq, not_true_eq_false, if_false, Bool.true_eq_false, if_true, hg, power_live h]
  rw [if_neg (by omega)]
  simp
theorem does_sync {fs : List FileS} {i : Nat} {f : FileS} (hi : fs[i]? = some f) (to : ByteArray) : doesTo 0 fs i f.l.length to = fs.set i { f with safe := f.l.length } := by
  unfold doesTo
  rw [hi]
  simp
theorem does_remove {fs : List FileS} {i : Nat} {f : FileS} (hi : fs[i]? = some f) (n : Nat) (to : ByteArray) : doesTo 3 fs i n to = fs.eraseIdx i := by
  unfold doesTo
  rw [hi]
  simp
theorem does_rename {fs : List FileS} (hr : Rising fs) {i : Nat} {f : FileS} (hi : fs[i]? = some f) (to : ByteArray) (n : Nat) :
    Rising (doesTo 2 fs i n to) ∧ (∀ g, g ∈ doesTo 2 fs i n to ↔ g = { f with nm := to, safe := n } ∨ (g ∈ fs ∧ g.nm ≠ f.nm ∧ g.nm ≠ to)) ∧ usedL (doesTo 2 fs i n to) ≤ usedL fs ∧ (doesTo 2 fs i n to).length ≤ fs.length := by
  have hre := rising_erase hr i
  have hue := used_erase hi
  have hle : (fs.eraseIdx i).length + 1 = fs.length := by
    have := (List.getElem?_eq_some_iff.1 hi).1
    rw [List.length_eraseIdx, if_pos this]
    omega
  have hme : ∀ g, g ∈ fs.eraseIdx i ↔ g ∈ fs ∧ g.nm ≠ f.nm := fun g => mem_eraseF hr hi
  unfold doesTo
  rw [hi]
  simp only [show ¬ (2 ≤ 1) from by omega, if_false, if_true]
  generalize fs.eraseIdx i = r at *
  cases hh : has r to with
  | true =>
    obtain ⟨f0, h0, hn0, hm0⟩ := of_has hh
    simp only [if_true]
    refine ⟨rising_set hre h0 (by simp [hn0]), fun g => ?_, ?_, ?_⟩
    · rw [mem_setF hre h0, hme, hn0, and_assoc]
    · have := used_set (f' := { f with nm := to, safe := (n : Int) }) h0
      simp only at this
      omega
    · rw [List.length_set]
      omega
  | false =>
    simp only [Bool.false_eq_true, if_false]
    refine ⟨rising_insert (f := { f with nm := to, safe := (n : Int) }) hre hh, fun g => ?_, ?_, ?_⟩
    · rw [mem_insert, hme]
      constructor
      · rintro (e | ⟨h1, h2⟩)
        · exact .inl e
        · exact .inr ⟨h1, h2, (has_false hre).1 hh g ((hme g).2 ⟨h1, h2⟩)⟩
      · rintro (e | ⟨h1, h2, _⟩)
        · exact .inl e
        · exact .inr ⟨h1, h2⟩
    · rw [used_insert]
      simp only
      omega
    · rw [length_insert]
      omega
end Go.Proofs.YtpjekppljaekoaaGreatDoor
namespace Go.Proofs.YtpjekppljaekoaaGreatDoor
open Go Go.RowKit

theorem parse_file (k : Int) (b : List UInt8) (h0 : 0 ≤ k) (h1 : k ≤ 1073741824) (hb : b.length ≤ 4194304) :
    parse (fileL k b) = ⟨67, k, b.length, b, crcI (bodyL k b), ⟨fileL k b, b.length + 17, false⟩⟩ := by
  have hl := fileL_length k b
  have v1 : valOf (be 1 67) = 67 := by rw [valOf_be]; rfl
  have v8 : valOf (be 8 k) = k := by rw [valOf_be]; exact Int.emod_eq_of_lt h0 (by omega)
  have v4 : valOf (be 4 (b.length : Int)) = b.length := by rw [valOf_be]; exact Int.emod_eq_of_lt (by omega) (by omega)
  have hc := crcI_range (bodyL k b)
  have vc : valOf (be 4 (crcI (bodyL k b))) = crcI (bodyL k b) := by rw [valOf_be]; exact Int.emod_eq_of_lt hc.1 (by omega)
  have l1 := be_length 1 67
  have l8 := be_length 8 k
  have l4 := be_length 4 (b.length : Int)
  have lc := be_length 4 (crcI (bodyL k b))
  have hL : fileL k b = be 1 67 ++ (be 8 k ++ (be 4 (b.length : Int) ++ (b ++ be 4 (crcI (bodyL k b))))) := by simp [fileL, bodyL]
  generalize be 4 (crcI (bodyL k b)) = B4 at *
  generalize be 1 67 = B1 at *
  generalize be 8 k = B8 at *
  generalize be 4 (b.length : Int) = B0 at *
  generalize fileL k b = L at *
  have pc : ∀ (p : Nat) (n : Int) (m : Nat), n = m → p + m ≤ b.length + 17 → (⟨L, p, false⟩ : RdS).piece n = some ((L.drop p).take m) ∧ (⟨L, p, false⟩ : RdS).next n = ⟨L, p + m, false⟩ := by
    rintro p n m rfl hm
    unfold RdS.piece RdS.next
    simp only [hl, Bool.false_eq_true, false_or]
    rw [if_neg (by omega), if_neg (by omega)]
    exact ⟨rfl, rfl⟩
  have d0 : (L.drop 0).take 1 = B1 := by rw [hL]; simp [l1]
  have d1 : (L.drop 1).take 8 = B8 := by
    rw [hL, List.drop_append_of_le_length (by omega), List.drop_of_length_le (by omega), List.nil_append, List.take_append_of_le_length (by omega), List.take_of_length_le (by omega)]
  have e9 : L.drop 9 = B0 ++ (b ++ B4) := by
    rw [hL, ← List.append_assoc, List.drop_append_of_le_length (by simp; omega), List.drop_of_length_le (by simp; omega), List.nil_append]
  have d9 : (L.drop 9).take 4 = B0 := by rw [e9, List.take_append_of_le_length (by omega), List.take_of_length_le (by omega)]
  have e13 : L.drop 13 = b ++ B4 := by
    rw [show 13 = 9 + 4 from rfl, ← List.drop_drop, e9, List.drop_append_of_le_length (by omega), List.drop_of_length_le (by omega), List.nil_append]
  have d13 : (L.drop 13).take b.length = b := by rw [e13, List.take_append_of_le_length (by omega), List.take_of_length_le (by omega)]
  have d17 : (L.drop (13 + b.length)).take 4 = B4 := by
    rw [← List.drop_drop, e13, List.drop_append_of_le_length (by omega), List.drop_of_length_le (by omega), List.nil_append, List.take_of_length_le (by omega)]
  have p0 := pc 0 1 1 rfl (by omega)
  have p1 := pc 1 8 8 rfl (by omega)
  have p9 := pc 9 4 4 rfl (by omega)
  have p13 := pc 13 (b.length : Int) b.length rfl (by omega)
  have p17 := pc (13 + b.length) 4 4 rfl (by omega)
  rw [d0] at p0
  rw [d1] at p1
  rw [d9] at p9
  rw [d13] at p13
  rw [d17] at p17
  unfold parse
  simp only [p0.2, p0.1, Nat.zero_add, p1.1, p1.2, Nat.reduceAdd, p9.1, p9.2, Option.getD_some, v1, v8, v4, p13.1, p13.2, p17.1, p17.2, vc]
  congr 2
  omega
theorem right_file (k : Int) (b : List UInt8) (h0 : 0 ≤ k) (h1 : k ≤ 1073741824) (hb : b.length ≤ 4194304) : ¬ wrongC 0 k (fileL k b) := by
  have hl := fileL_length k b
  have ht : (fileL k b).take ((fileL k b).length - 4) = bodyL k b := by
    have : (fileL k b).length = (bodyL k b).length + 4 := by unfold fileL; rw [List.length_append, be_length]
    rw [this, Nat.add_sub_cancel]
    unfold fileL
    rw [List.take_append_of_le_length (Nat.le_refl _), List.take_length]
  unfold wrongC
  rw [parse_file k b h0 h1 hb, ht]
  simp [hl]
  omega

def fileOf (k : Int) (b : List UInt8) : FileS := ⟨nameOf k, fileL k b, ((b.length + 17 : Nat) : Int)⟩

abbrev Cont := Int → Option (List UInt8)
def Cont.put (c : Cont) (k : Int) (b : List UInt8) : Cont := fun n => if n = k then some b else c n
def Cont.from (c : Cont) (below : Int) : Cont := fun n => if n < below then none else c n

/-- The disk is on, and holds just these checkpoints. -/
structure Holds (s : DiskS) (c : Cont) : Prop where
  live : Live s
  rise : Rising s.files
  mem : ∀ f, f ∈ s.files ↔ ∃ k b, c k = some b ∧ f = fileOf k b
  bnd : ∀ k b, c k = some b → 0 ≤ k ∧ k ≤ 1073741824 ∧ b.length ≤ 4194304

theorem Holds.new (q : Int) : Holds (DiskS.new q) (fun _ => none) :=
  ⟨⟨rfl, rfl⟩, List.Pairwise.nil, fun f => by simp [DiskS.new], fun _ _ h => by cases h⟩
theorem Holds.no_tmp {s : DiskS} {c : Cont} (h : Holds s c) : ∀ f ∈ s.files, f.nm ≠ tmpN := by
  intro f hf
  obtain ⟨k, b, hc, rfl⟩ := (h.mem f).1 hf
  obtain ⟨h0, h1, _⟩ := h.bnd k b hc
  exact name_ne_tmp k h0 h1
theorem Holds.clear {s : DiskS} {c : Cont} (h : Holds s c) : s.clear = (s, 0) := by
  unfold DiskS.clear
  rw [read_none h.live h.rise h.no_tmp nameOk_tmp]
  rfl
theorem Holds.opened {s : DiskS} {c : Cont} (h : Holds s c) : s.opened = (s, 0) := by
  unfold DiskS.opened
  rw [h.live.1, h.clear]
  rfl

theorem Holds.write {s : DiskS} {c : Cont} (h : Holds s c) {k : Int} {b : List UInt8} (h0 : 0 ≤ k) (h1 : k ≤ 1073741824) (hb : b.length ≤ 4194304) (hq : (usedL s.files : Int) + b.length + 17 ≤ s.quota) :
    ∃ s', s.write k b = (s', 0) ∧ Holds s' (c.put k b) ∧ s'.quota = s.quota ∧ s'.steps = s.steps + 3 ∧ s'.files.length ≤ s.files.length + 1 ∧ usedL s'.files ≤ usedL s.files + (b.length + 17) := by
  have hl := fileL_length k b
  have hA := append_live h.live h.rise (b := fileL k b) h.no_tmp nameOk_tmp (by omega) (by rw [hl]; omega)
  have hnt := (has_false h.rise).2 h.no_tmp
  have hr2 : Rising (insertAt s.files (idx s.files tmpN) ⟨tmpN, fileL k b, -1⟩) := rising_insert (f := ⟨tmpN, fileL k b, -1⟩) h.rise hnt
  have hm2 : ∀ f, f ∈ insertAt s.files (idx s.files tmpN) ⟨tmpN, fileL k b, -1⟩ ↔ f = ⟨tmpN, fileL k b, -1⟩ ∨ f ∈ s.files := fun f => mem_insert
  have hu2 := used_insert s.files (idx s.files tmpN) ⟨tmpN, fileL k b, -1⟩
  have hn2 := length_insert s.files (idx s.files tmpN) ⟨tmpN, fileL k b, -1⟩
  simp only [hl] at hu2
  generalize insertAt s.files (idx s.files tmpN) ⟨tmpN, fileL k b, -1⟩ = fs2 at *
  have hS := step_live (s := { s with files := fs2, steps := s.steps + 1 }) (kind := 0) (to := tmpN) h.live hr2 (f := ⟨tmpN, fileL k b, -1⟩) ((hm2 _).2 (.inl rfl)) rfl nameOk_tmp nameOk_tmp
  have hi2 := (has_of hr2 ((hm2 _).2 (.inl rfl))).2
  simp only at hi2 hS
  rw [does_sync hi2] at hS
  have hr3 : Rising (fs2.set (idx fs2 tmpN) ⟨tmpN, fileL k b, ((fileL k b).length : Nat)⟩) := rising_set hr2 hi2 rfl
  have hm3 := fun f => mem_setF (g := ⟨tmpN, fileL k b, ((fileL k b).length : Nat)⟩) hr2 hi2 (f := f)
  have hu3 := used_set (f' := ⟨tmpN, fileL k b, ((fileL k b).length : Nat)⟩) hi2
  have hn3 : (fs2.set (idx fs2 tmpN) ⟨tmpN, fileL k b, ((fileL k b).length : Nat)⟩).length = fs2.length := List.length_set
  simp only [hl] at hS hr3 hm3 hu3 hn3
  generalize fs2.set (idx fs2 tmpN) ⟨tmpN, fileL k b, ((b.length + 17 : Nat) : Int)⟩ = fs3 at *
  have hR := step_live (s := { s with files := fs3, steps := s.steps + 1 + 1 }) (kind := 2) (to := nameOf k) h.live hr3 (f := ⟨tmpN, fileL k b, ((b.length + 17 : Nat) : Int)⟩) ((hm3 _).2 (.inl rfl)) rfl nameOk_tmp (nameOk_name k h0 h1)
  have hi3 := (has_of hr3 ((hm3 _).2 (.inl rfl))).2
  obtain ⟨hr4, hm4, hu4, hn4⟩ := does_rename hr3 hi3 (nameOf k) (b.length + 17)
  simp only [hl] at hi3 hR hr4 hm4 hu4 hn4
  generalize doesTo 2 fs3 (idx fs3 tmpN) (b.length + 17) (nameOf k) = fs4 at *
  have w1 : wst1 s k b = (s, 0) := h.clear
  have w2 : wst2 s k b = ({ s with files := fs2, steps := s.steps + 1 }, 0) := by unfold wst2; rw [w1]; exact hA
  have w3 : wst3 s k b = ({ s with files := fs3, steps := s.steps + 1 + 1 }, 0) := by unfold wst3; rw [w2]; exact hS
  have w4 : wst4 s k b = ({ s with files := fs4, steps := s.steps + 1 + 1 + 1 }, 0) := by unfold wst4; rw [w3]; exact hR
  refine ⟨{ s with files := fs4, steps := s.steps + 1 + 1 + 1 }, ?_, ⟨h.live, hr4, fun f => ?_, fun n x hx => ?_⟩, rfl, by simp only; omega, by simp only; omega, by simp only; omega⟩
  · unfold DiskS.write
    rw [if_neg (by omega), if_neg (by omega), h.live.1]
    simp only [wst, w1, w2, w3, w4, ne_eq, not_true_eq_false, if_false, Bool.false_eq_true, h.live.1]
  · simp only [hm4, hm3, hm2, h.mem]
    constructor
    · rintro (rfl | ⟨h2, h3, h4⟩)
      · exact ⟨k, b, by simp [Cont.put], rfl⟩
      · rcases h2 with rfl | ⟨h2 | ⟨n, x, hx, rfl⟩, h5⟩
        · exact absurd rfl h3
        · exact absurd (by rw [h2]) h3
        · refine ⟨n, x, ?_, rfl⟩
          unfold Cont.put
          rw [if_neg]
          · exact hx
          · rintro rfl; exact h4 rfl
    · rintro ⟨n, x, hx, rfl⟩
      unfold Cont.put at hx
      split at hx
      · next e => injection hx with hx; subst hx; subst e; exact .inl rfl
      · next e =>
        obtain ⟨a0, a1, _⟩ := h.bnd n x hx
        have ht : (fileOf n x).nm ≠ tmpN := name_ne_tmp n a0 a1
        exact .inr ⟨.inr ⟨.inr ⟨n, x, hx, rfl⟩, ht⟩, ht, fun e' => e (name_inj a0 a1 h0 h1 e')⟩
  · unfold Cont.put at hx
    split at hx
    · next e => injection hx with hx; subst hx; subst e; exact ⟨h0, h1, hb⟩
    · exact h.bnd n x hx

theorem Holds.read {s : DiskS} {c : Cont} (h : Holds s c) {k : Int} (h0 : 0 ≤ k) (h1 : k ≤ 1073741824) : s.readC k = match c k with | some b => (b, 0) | none => ([], 190) := by
  unfold DiskS.readC
  rw [if_neg (by omega)]
  cases hc : c k with
  | some b =>
    have hm : fileOf k b ∈ s.files := (h.mem _).2 ⟨k, b, hc, rfl⟩
    have hr : s.read (nameOf k) = (fileL k b, 0) := read_live h.live h.rise hm (nameOk_name k h0 h1)
    obtain ⟨_, _, hb⟩ := h.bnd k b hc
    rw [hr]
    simp only
    rw [if_neg (by omega), if_neg (right_file k b h0 h1 hb), parse_file k b h0 h1 hb]
  | none =>
    have hr : s.read (nameOf k) = ([], 5) := read_none h.live h.rise (fun f hf e => by
      obtain ⟨n, x, hx, rfl⟩ := (h.mem f).1 hf
      obtain ⟨a0, a1, _⟩ := h.bnd n x hx
      have := name_inj a0 a1 h0 h1 e
      subst this
      rw [hc] at hx
      cases hx) (nameOk_name k h0 h1)
    rw [hr]
    simp only
    rw [if_neg (by omega), if_pos (by unfold wrongC; left; omega)]

theorem Holds.all {s : DiskS} {c : Cont} (h : Holds s c) : s.all.Pairwise (· < ·) ∧ ∀ n, n ∈ s.all ↔ (c n).isSome = true := by
  have hm : ∀ n, n ∈ s.files.filterMap (fun f => stepOf f.nm) ↔ (c n).isSome = true := by
    intro n
    rw [List.mem_filterMap]
    constructor
    · rintro ⟨f, hf, e⟩
      obtain ⟨k, b, hc, rfl⟩ := (h.mem f).1 hf
      obtain ⟨a0, a1, _⟩ := h.bnd k b hc
      have e' : stepOf (nameOf k) = some n := e
      rw [step_name k a0 a1] at e'
      injection e' with e'
      subst e'
      rw [hc]; rfl
    · intro hc
      obtain ⟨b, hb⟩ := Option.isSome_iff_exists.1 hc
      obtain ⟨a0, a1, _⟩ := h.bnd n b hb
      exact ⟨fileOf n b, (h.mem _).2 ⟨n, b, hb, rfl⟩, step_name n a0 a1⟩
  have hnd : (s.files.filterMap (fun f => stepOf f.nm)).Pairwise (· ≠ ·) := by
    refine List.Pairwise.filterMap _ ?_ h.rise
    intro a b hab n hn m hm' e
    subst e
    have ha := name_of_step (Option.mem_def.1 hn)
    have hb := name_of_step (Option.mem_def.1 hm')
    rw [← ha.2.2, ← hb.2.2, ltN_irrefl] at hab
    cases hab
  have hp := List.mergeSort_perm (s.files.filterMap (fun f => stepOf f.nm)) (fun x y => decide (x ≤ y))
  have hs := List.pairwise_mergeSort (le := fun (x y : Int) => decide (x ≤ y)) (fun a b c h1 h2 => by simp at *; omega) (fun a b => by simp; omega) (s.files.filterMap (fun f => stepOf f.nm))
  refine ⟨?_, fun n => ?_⟩
  · have hnd2 : s.all.Pairwise (· ≠ ·) := (hp.pairwise_iff (fun h => Ne.symm h)).2 hnd
    refine (hs.and hnd2).imp ?_
    intro a b h1
    have := h1.1
    have := h1.2
    simp at *
    omega
  · rw [← hm]
    exact hp.mem_iff

theorem sorted_ext : ∀ {l1 l2 : List Int}, l1.Pairwise (· < ·) → l2.Pairwise (· < ·) → (∀ n, n ∈ l1 ↔ n ∈ l2) → l1 = l2
  | [], [], _, _, _ => rfl
  | [], b :: l2, _, _, h => absurd ((h b).2 (by simp)) (by simp)
  | a :: l1, [], _, _, h => absurd ((h a).1 (by simp)) (by simp)
  | a :: l1, b :: l2, h1, h2, h => by
    rw [List.pairwise_cons] at h1 h2
    have hab : a = b := by
      rcases List.mem_cons.1 ((h a).1 (by simp)) with e | e
      · exact e
      · rcases List.mem_cons.1 ((h b).2 (by simp)) with e' | e'
        · exact e'.symm
        · have := h2.1 a e
          have := h1.1 b e'
          omega
    subst hab
    congr 1
    refine sorted_ext h1.2 h2.2 fun n => ?_
    constructor
    · intro hn
      rcases List.mem_cons.1 ((h n).1 (List.mem_cons_of_mem _ hn)) with e | e
      · have := h1.1 n hn; omega
      · exact e
    · intro hn
      rcases List.mem_cons.1 ((h n).2 (List.mem_cons_of_mem _ hn)) with e | e
      · have := h2.1 n hn; omega
      · exact e

/-- What Drop does, step by step. -/
def dropL (s : DiskS) (below : Int) : List Int → DiskS × Int
  | [] => (s, 0)
  | n :: r => if below ≤ n then (s, 0) else
    let p := s.step 3 (nameOf n) (nameOf n) 0 true
    if p.2 ≠ 0 then p else dropL p.1 below r
def DiskS.drop (s : DiskS) (below : Int) : DiskS × Int := if s.off then (s, 160) else dropL s below s.all

theorem Holds.remove {s : DiskS} {c : Cont} (h : Holds s c) {n : Int} (hn : (c n).isSome = true) :
    ∃ s', s.step 3 (nameOf n) (nameOf n) 0 true = (s', 0) ∧ Holds s' (fun k => if k = n then none else c k) ∧ s'.quota = s.quota ∧ s'.steps = s.steps + 1 ∧ s'.files.length ≤ s.files.length ∧ usedL s'.files ≤ usedL s.files := by
  obtain ⟨b, hb⟩ := Option.isSome_iff_exists.1 hn
  obtain ⟨a0, a1, _⟩ := h.bnd n b hb
  have hm : fileOf n b ∈ s.files := (h.mem _).2 ⟨n, b, hb, rfl⟩
  have ho := nameOk_name n a0 a1
  have hS := step_live h.live h.rise (kind := 3) (to := nameOf n) hm rfl ho ho
  have hi : s.files[idx s.files (nameOf n)]? = some (fileOf n b) := (has_of h.rise hm).2
  rw [show (fileOf n b).nm = nameOf n from rfl, does_remove hi] at hS
  refine ⟨_, hS, ⟨h.live, rising_erase h.rise _, fun f => ?_, fun k x hx => ?_⟩, rfl, rfl, ?_, ?_⟩
  · rw [mem_eraseF h.rise hi, h.mem]
    constructor
    · rintro ⟨⟨k, x, hx, rfl⟩, hne⟩
      refine ⟨k, x, ?_, rfl⟩
      rw [if_neg]
      · exact hx
      · rintro rfl; exact hne rfl
    · rintro ⟨k, x, hx, rfl⟩
      split at hx
      · cases hx
      · next e =>
        obtain ⟨c0, c1, _⟩ := h.bnd k x hx
        exact ⟨⟨k, x, hx, rfl⟩, fun e' => e (name_inj c0 c1 a0 a1 e')⟩
  · split at hx
    · cases hx
    · exact h.bnd k x hx
  · exact List.length_eraseIdx_le _ _
  · have := used_erase hi
    show usedL (s.files.eraseIdx _) ≤ _
    omega

theorem Holds.dropL (below : Int) : ∀ {l : List Int} {s : DiskS} {c : Cont}, Holds s c → l.Pairwise (· < ·) → (∀ n, n ∈ l → (c n).isSome = true) →
    ∃ s', dropL s below l = (s', 0) ∧ Holds s' (fun k => if k ∈ l ∧ k < below then none else c k) ∧ s'.quota = s.quota ∧ s.steps ≤ s'.steps ∧ s'.steps ≤ s.steps + l.length ∧ s'.files.length ≤ s.files.length ∧ usedL s'.files ≤ usedL s.files
  | [], s, c, h, _, _ => ⟨s, rfl, by simpa using h, rfl, Int.le_refl _, by simp, Nat.le_refl _, Nat.le_refl _⟩
  | n :: l, s, c, h, hl, hc => by
    rw [List.pairwise_cons] at hl
    by_cases hb : below ≤ n
    · refine ⟨s, by rw [Go.Proofs.YtpjekppljaekoaaGreatDoor.dropL, if_pos hb], ?_, rfl, Int.le_refl _, by simp only [List.length_cons]; omega, Nat.le_refl _, Nat.le_refl _⟩
      have : (fun k => if k ∈ n :: l ∧ k < below then none else c k) = c := by
        funext k
        rw [if_neg]
        rintro ⟨hk, hk2⟩
        rcases List.mem_cons.1 hk with rfl | hk
        · omega
        · have := hl.1 k hk; omega
      rw [this]
      exact h
    · obtain ⟨s1, e1, h1, q1, t1, n1, u1⟩ := h.remove (hc n (by simp))
      obtain ⟨s2, e2, h2, q2, t2, t3, n2, u2⟩ := Holds.dropL below h1 hl.2 (fun k hk => by
        have := hl.1 k hk
        rw [if_neg (by omega)]
        exact hc k (by simp [hk]))
      refine ⟨s2, ?_, ?_, by rw [q2, q1], by omega, by simp only [List.length_cons]; omega, by omega, by omega⟩
      · rw [Go.Proofs.YtpjekppljaekoaaGreatDoor.dropL, if_neg hb, e1]
        simpa using e2
      · have : (fun k => if k ∈ n :: l ∧ k < below then none else c k) = (fun k => if k ∈ l ∧ k < below then none else (fun k => if k = n then none else c k) k) := by
          funext k
          by_cases hk : k = n
          · subst hk
            rw [if_pos ⟨by simp, by omega⟩]
            split <;> simp
          · simp [hk]
        rw [this]
        exact h2
theorem Holds.drop {s : DiskS} {c : Cont} (h : Holds s c) (below : Int) :
    ∃ s', s.drop below = (s', 0) ∧ Holds s' (c.from below) ∧ s'.quota = s.quota ∧ s.steps ≤ s'.steps ∧ s'.steps ≤ s.steps + s.all.length ∧ s'.files.length ≤ s.files.length ∧ usedL s'.files ≤ usedL s.files := by
  obtain ⟨h1, h2⟩ := h.all
  obtain ⟨s', e, h3, r⟩ := h.dropL below h1 (fun n hn => (h2 n).1 hn)
  refine ⟨s', by unfold DiskS.drop; rw [h.live.1]; exact e, ?_, r⟩
  have : (fun k => if k ∈ s.all ∧ k < below then none else c k) = c.from below := by
    funext k
    unfold Cont.from
    by_cases hk : k < below
    · rw [if_pos hk]
      split
      · rfl
      · next hn =>
        have : ¬ (c k).isSome = true := fun hc => hn ⟨(h2 k).2 hc, hk⟩
        simpa using this
    · rw [if_neg hk, if_neg (fun h => hk h.2)]
  rw [this] at h3
  exact h3
end Go.Proofs.YtpjekppljaekoaaGreatDoor
namespace Go.Proofs.YtpjekppljaekoaaGreatDoor
open Go Go.RowKit Go.Shelf

/-- The record of a loop over a function. -/
def recOf (tmps : Array Value) (fn : FuncId) (ps : Array Tmp) (assign body : Code) (D : Nat) (st : LoopState) : Loop :=
  { state := st, pending := none, fn := fn, tmps := tmps, params := ps, assign := assign, body := body, defers := D }

theorem wpIn_range_bound {F : Fence} {n : Nat} {P : Program} {g : Operand} {ps : Array Tmp} {assign body : Code} {Q : Exit → Act → World → Prop} {a : Act} {w : World}
    (hro : F.round = none) (h1 : 1 ≤ n) {gf : Nat} {fb lb : Array Value} (hg : a.eval g = .func (.func gf) fb lb) (hFg : F.fn gf) (eg : ∀ args w, (callFunc gf args).run P w = .ok (.enter gf args) w)
    (h : ∀ fn rec W1, F.fn fn → rec = recOf a.tmps fn ps assign body w.heap.size .ready → (w.alloc (.deferred (some []))).alloc (.loop rec) = W1 →
      CallsIn F (n - 1) P gf (fb ++ #[.func (.yield (w.heap.size + 1)) #[] #[]] ++ lb) W1 fun e W2 => (∃ v, e = .returned v) ∧ W2.heap[w.heap.size + 1]? = some (.loop rec) ∧
        Q .normal { a with defers := { target := .collected w.heap.size, args := #[] } :: a.defers } (W2.putObj (w.heap.size + 1) (.loop { rec with state := .exhausted }))) :
    (Code.rangeFunc g ps assign body).wpIn F n P Q a w := by
  refine wpIn_rangeFunc ?_
  intro fn hfn
  rw [hro]
  obtain ⟨W1, hW1⟩ : ∃ W1, (w.alloc (.deferred (some []))).alloc (.loop (recOf a.tmps fn ps assign body w.heap.size .ready)) = W1 := ⟨_, rfl⟩
  refine ⟨w.heap.size + 1, [{ target := .collected w.heap.size, args := #[] }], W1, { target := .fn (.func gf) lb, args := fb ++ #[.func (.yield (w.heap.size + 1)) #[] #[]] }, W1, gf,
    fb ++ #[.func (.yield (w.heap.size + 1)) #[] #[]] ++ lb, W1, ?_, ?_, ?_, ?_, fun _ => h1, ?_⟩
  · rw [← hW1]
    exact run_enterLoop_outer _ _ _ _ _
  · simp only [resolve, hg]
    simp [go_sem]
  · intro f' hf'
    simp [Target.leads] at hf'
    subst hf'
    exact hFg
  · simp [invoke, go_sem, eg]
  · refine (h fn _ W1 hfn rfl hW1).mono ?_
    rintro e W2 ⟨⟨v, rfl⟩, hl, hQ⟩
    exact ⟨none, _, run_endLoop hl (by simp [recOf]), hQ⟩

/-- How a round's body may be left: it goes on. -/
def goesOn (l : Nat) (r : Loop) (R : Ending → World → Prop) : Exit → Act → World → Prop
  | .normal, _, W => W.heap[l]? = some (.loop { r with state := .busy }) ∧ R (.returned (.bool true)) (W.putObj l (.loop r))
  | _, _, _ => False

def beginsOn (F : Fence) (n : Nat) (P : Program) (l : Nat) (r : Loop) (body : Code) (R : Ending → World → Prop) (a1 : Act) (W1 : World) : Prop :=
  W1.heap[l]? = some (.loop r) ∧ body.wpIn (F.inRound l) n P (goesOn l r R) a1 (W1.putObj l (.loop { r with state := .busy }))

theorem yield_round {F : Fence} {n : Nat} {P : Program} {l : Nat} {r : Loop} {args tmps : Array Value} {fn : FuncId} {ps : Array Tmp} {assign body : Code} {D : Nat} {W : World} {R : Ending → World → Prop}
    (hr : r = recOf tmps fn ps assign body D .ready) (hl : W.heap[l]? = some (.loop r)) (hp : args.size = ps.size) (hfn : F.fn fn)
    (h : assign.wpIn (F.inRound l) n P (Exit.then (beginsOn F n P l r body R) (fun _ _ _ => False))
      { tmps := (ps.zip args).foldl (fun t (p, v) => t.setIfInBounds p v) tmps, defers := [] } W) : YieldAt F n P l args W R := by
  subst hr
  refine ⟨fn, _, assign, body, run_yield hl hp, roundIn_of_wpIn hfn (wpIn_mono h ?_)⟩
  rintro e a1 W1 hq
  cases e with
  | normal =>
    obtain ⟨h1, h2⟩ := hq
    refine ⟨_, run_beginRound h1 rfl, wpIn_mono h2 ?_⟩
    rintro e a2 W2 hq2
    cases e with
    | normal =>
      obtain ⟨h3, h4⟩ := hq2
      exact ⟨_, _, run_endRound none h3, h4⟩
    | _ => exact hq2.elim
  | _ => exact hq.elim
end Go.Proofs.YtpjekppljaekoaaGreatDoor
namespace Go.Proofs.YtpjekppljaekoaaGreatDoor
open Go Go.RowKit Go.Shelf

attribute [local go_sem] Oper.semAt_some

/-- The steps whose files are right. -/
def rightB (s : DiskS) (n : Int) : Bool := (s.readC n).2 == 0
def DiskS.stepsL (s : DiskS) : List Int := s.all.filter (rightB s)
def rightTo (s : DiskS) (k : Nat) : List Int := (s.all.take k).filter (rightB s)
theorem rightTo_yes {s : DiskS} {k : Nat} {n : Int} (hn : s.all[k]? = some n) (h : rightB s n = true) : rightTo s (k + 1) = rightTo s k ++ [n] := by
  unfold rightTo
  rw [List.take_add_one, hn, List.filter_append]
  simp [h]
theorem rightTo_no {s : DiskS} {k : Nat} {n : Int} (hn : s.all[k]? = some n) (h : rightB s n = false) : rightTo s (k + 1) = rightTo s k := by
  unfold rightTo
  rw [List.take_add_one, hn, List.filter_append]
  simp [h]
theorem rightTo_le (s : DiskS) (k : Nat) : (rightTo s k).length ≤ k := by
  unfold rightTo
  exact Nat.le_trans (List.length_filter_le _ _) (by rw [List.length_take]; omega)
theorem all_bd {s : DiskS} {n : Int} (h : n ∈ s.all) : 0 ≤ n ∧ n ≤ 1073741824 := by
  unfold DiskS.all at h
  rw [(List.mergeSort_perm _ _).mem_iff, List.mem_filterMap] at h
  obtain ⟨f, _, hf⟩ := h
  have := name_of_step hf
  exact ⟨this.1, this.2.1⟩
theorem all_le (s : DiskS) : s.all.length ≤ s.files.length := by
  unfold DiskS.all
  rw [List.length_mergeSort]
  exact List.length_filterMap_le _ _

/-- What the caller keeps between two rounds, beside what the iterator needs. -/
structure RightJ (wb W : World) (N : Nat) (J : Nat → List Int → World → Prop) : Prop where
  start : ∀ W1 g, Ext [] W W1 → W.heap.size ≤ g → J g [] W1
  keep : ∀ g xs W1 W2, J g xs W1 → Ext [] W1 W2 → J g xs W2
  base : ∀ g xs W1, J g xs W1 → Ext [] wb W1

set_option maxRecDepth 100000 in
set_option maxHeartbeats 4000000 in
theorem right_in (m l : Nat) (hm : 1 ≤ m) (gs d : Nat) (sv : Value) (s : DiskS) (wb W : World) (h : DiskAt wb d sv s) (hst : Blk wb gs 193 #[.pointer (some ⟨d, 0, none⟩)]) (hL : Lai wb) (hnm : ∀ f ∈ s.files, f.nm.size ≤ 1000000) (hx : Ext [] wb W)
    (J : Nat → List Int → World → Prop) (hJ : RightJ wb W s.all.length J)
    (hY : ∀ g pre x W1, J g pre W1 → W.heap.size ≤ g → g < W1.heap.size → pre.length < s.all.length → (∃ cs, Blk W1 g 3 cs) → YieldAt Fence.wide (m - 1) Tryz.prog l #[.int .i64 x] W1 fun e W' => e = .returned (.bool true) ∧ J g (pre ++ [x]) W' ∧ W'.heap[g]? = W1.heap[g]?) :
    CallsIn Fence.wide m Tryz.prog 113 #[.pointer (some ⟨gs, 0, none⟩), .func (.yield l) #[] #[]] W fun e W' => (∃ v, e = .returned v) ∧ ∃ g, J g s.stepsL W' := by
  have hA := all_calls gs d sv s W (h.keep hx) (hst.keep hx) (hL.keep hx) hnm
  have hal := all_le s
  have hmany := h.many
  have hR := fun n w1 (hx1 : Ext [] wb w1) => readC_calls gs d sv s n w1 (h.keep hx1) (hst.keep hx1) (hL.keep hx1)
  have hstep : s.stepsL = rightTo s s.all.length := by unfold DiskS.stepsL rightTo; rw [List.take_length]
  replace h := Lib.hid h
  replace hst := Lib.hid hst
  replace hL := Lib.hid hL
  replace hnm := Lib.hid hnm
  replace hx := Lib.hid hx
  replace hJ := Lib.hid hJ
  replace hY := Lib.hid hY
  replace hR := Lib.hid hR
  replace hal := Lib.hid hal
  replace hmany := Lib.hid hmany
  rw [hstep]
  replace hstep := Lib.hid hstep
  generalize hnl : s.all.length = nl at *
  have hnl' : (nl : Int) ≤ 100000 := by have := hal.out; have := hmany.out; omega
  replace hnl := Lib.hid hnl
  refine callsIn_of_wp Tryz.func113 rfl trivial ?_ rfl
  simp only [Tryz.ntmps113, List.size_toArray, List.length_cons, List.length_nil, Nat.reduceAdd, Nat.reduceSub, Array.replicate_succ, Array.replicate_zero, List.push_toArray, List.append_toArray, List.nil_append, List.cons_append]
  gi_wp2_with (refine ⟨trivial, ?_⟩; gi_at_call 110; refine (callsIn_wide.2 hA).mono ?_; rintro e w1 ⟨A, c, rfl, ho1, hx1⟩; replace ho1 := Lib.hid ho1; replace hx1 := Lib.hid hx1)
  obtain ⟨g, hgW, hg⟩ : ∃ g, W.heap.size ≤ g ∧ (nl = 0 ∨ A = some ⟨g, 0, none⟩ ∧ ∃ cur : Array Value, Blk w1 g 3 cur ∧ ∀ (k : Nat) (n : Int), s.all[k]? = some n → cur[k]? = some (intV n)) := by
    rcases ho1.out.2 with ⟨_, e0⟩ | ⟨g, cap, cur, e, hb, hh, _, _, _, _⟩
    · exact ⟨W.heap.size, Nat.le_refl _, .inl e0⟩
    · injection e with e1 _ _
      refine ⟨g, hb, .inr ⟨e1, cur, hh, fun k n hk => ?_⟩⟩
      have h1 := ho1.out.cells (g := g) (by rw [e1]; rfl) k (intV n) (by rw [List.getElem?_map, hk]; rfl)
      rw [Addr.add_lit, Nat.zero_add] at h1
      exact (Blk.cell hh k).symm.trans h1
  have hJ0 := hJ.out.start w1 g hx1.out hgW
  replace hg := Lib.hid hg
  replace hJ0 := Lib.hid hJ0
  gi_loopw [13] (fun i wr => ∃ k : Nat, k ≤ nl ∧ i = .int .i64 k ∧ Hid (J g (rightTo s k) wr) ∧ Hid (nl = 0 ∨ A = some ⟨g, 0, none⟩ ∧ ∃ cur : Array Value, Blk wr g 3 cur ∧ ∀ (k : Nat) (n : Int), s.all[k]? = some n → cur[k]? = some (intV n))) (fun i _ => nl - (intOf i).toNat)
  case atStart => exact ⟨0, by omega, rfl, hJ0, hg⟩
  case round =>
    obtain ⟨k, hk, rfl, hJr, hgr⟩ := hrel
    by_cases hkn : k < nl
    · obtain ⟨n, hget⟩ : ∃ n, s.all[k]? = some n := ⟨_, List.getElem?_eq_getElem (by have := hnl.out; omega)⟩
      obtain ⟨rfl, cur, hcur, hcells⟩ : A = some ⟨g, 0, none⟩ ∧ ∃ cur : Array Value, Blk wr g 3 cur ∧ ∀ (k : Nat) (n : Int), s.all[k]? = some n → cur[k]? = some (intV n) := by
        rcases hgr.out with h | h
        · omega
        · exact h
      have q0 : wr.cell? ⟨g, k, none⟩ = some (.int .i64 n) := (hcur.cell k).trans (hcells k n hget)
      have hnb := all_bd (List.mem_iff_getElem?.2 ⟨k, hget⟩)
      have hkI : (k : Int) < nl := by omega
      have hk0 : (0 : Int) ≤ k := by omega
      have hRn := hR.out n wr (hJ.out.base _ _ _ hJr.out)
      have hglt := hcur.lt
      have hlen : (rightTo s k).length < nl := by have := rightTo_le s k; omega
      replace hget := Lib.hid hget
      replace hcur := Lib.hid hcur
      replace hcells := Lib.hid hcells
      replace hglt := Lib.hid hglt
      replace hlen := Lib.hid hlen
      replace hnb := Lib.hid hnb
      replace hk := Lib.hid hk
      cases hr : rightB s n with
      | true =>
        have hr' : (s.readC n).2 = 0 := by simpa [rightB] using hr
        have hRn' : Calls Tryz.prog 42 #[.pointer (some ⟨gs, 0, none⟩), .int .i64 n] wr fun e w' => (∃ v, e = .returned (.tuple #[v, .int .i64 0])) ∧ Ext [] wr w' := by
          refine hRn.mono ?_
          rintro e w' ⟨v, rfl, _, hx⟩
          rw [hr']
          exact ⟨⟨v, rfl⟩, hx⟩
        clear hRn
        replace hr := Lib.hid hr
        replace hr' := Lib.hid hr'
        gi_wp2_with (refine ⟨trivial, ?_⟩; gi_at_call 42; refine (callsIn_wide.2 hRn').mono ?_; rintro e w2 ⟨⟨v, rfl⟩, hx2⟩; obtain ⟨fn, tmps, assign, body, hy, hRd⟩ := hY.out g _ n w2 (hJ.out.keep _ _ _ _ hJr.out hx2) hgW (Nat.lt_of_lt_of_le hglt.out hx2.size) hlen.out ⟨cur, hcur.out.keep hx2⟩; replace hx2 := Lib.hid hx2; replace hRd := Lib.hid hRd)
        refine hRd.out.mono ?_
        rintro e W3 ⟨rfl, hJ3, hb3⟩
        replace hb3 := Lib.hid hb3
        replace hJ3 := Lib.hid hJ3
        gi_wp2
        go_roundw
        case rel =>
          refine ⟨k + 1, by omega, by go_num, Lib.hid ?_, Lib.hid (.inr ⟨trivial, cur, ?_, hcells.out⟩)⟩
          · rw [rightTo_yes hget.out hr.out]; exact hJ3.out
          · exact hb3.out.trans (hcur.out.keep hx2.out)
        case measure => simp [intOf]; omega
      | false =>
        have hr' : ((s.readC n).2 == 0) = false := hr
        have hRn' : Calls Tryz.prog 42 #[.pointer (some ⟨gs, 0, none⟩), .int .i64 n] wr fun e w' => (∃ v, e = .returned (.tuple #[v, .int .i64 (s.readC n).2])) ∧ Ext [] wr w' := by
          refine hRn.mono ?_
          rintro e w' ⟨v, rfl, _, hx⟩
          exact ⟨⟨v, rfl⟩, hx⟩
        clear hRn
        replace hr := Lib.hid hr
        generalize (s.readC n).2 = an at *
        gi_wp2_with (refine ⟨trivial, ?_⟩; gi_at_call 42; refine (callsIn_wide.2 hRn').mono ?_; rintro e w2 ⟨⟨v, rfl⟩, hx2⟩; replace hx2 := Lib.hid hx2)
        all_goals (refine ⟨fun f hf => (by cases hf), ?_⟩)
        gi_wp2
        go_roundw
        case rel =>
          refine ⟨k + 1, by omega, by go_num, Lib.hid ?_, Lib.hid (.inr ⟨trivial, cur, hcur.out.keep hx2.out, hcells.out⟩)⟩
          rw [rightTo_no hget.out hr.out]
          exact hJ.out.keep _ _ _ _ hJr.out hx2.out
        case measure => simp [intOf]; omega
    · obtain rfl : k = nl := by omega
      gi_wp2
      go_end0
      exact ⟨⟨_, rfl⟩, g, hJr.out⟩
end Go.Proofs.YtpjekppljaekoaaGreatDoor

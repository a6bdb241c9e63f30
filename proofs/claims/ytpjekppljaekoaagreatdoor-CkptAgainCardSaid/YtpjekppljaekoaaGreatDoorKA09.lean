/- Contracts of package ckpt: Read, whole. Contracts of package disk: Names. Contracts of package ckpt: all. slices.Sort of a row of ints that the call owns. Contracts of package ckpt: all, the walk. -/
import Derived.Test.YtpjekppljaekoaaGreatDoorKA08
import Derived.Test.YtpjekppljaekoaaGreatDoorKA04
import Derived.Test.YtpjekppljaekoaaGreatDoorKA02
import Derived.Sort.OwnSortedInts
namespace Go.Proofs.YtpjekppljaekoaaGreatDoor
open Go Go.RowKit

theorem valOf_u4 (l : List UInt8) (h : l.length ≤ 4) : valOf l < 4294967296 := by
  have h1 := (valOf_bd l).2
  have hc : l.length = 0 ∨ l.length = 1 ∨ l.length = 2 ∨ l.length = 3 ∨ l.length = 4 := by omega
  rcases hc with e | e | e | e | e
  all_goals
    rw [e] at h1
    simp only [Int.reducePow] at h1
    omega

theorem Bs.past {w2 w3 w8 : World} {p : Nat → Prop} {g : Nat} {v : Value} {l : List UInt8} (hv : Bs w2 p v l) (hx3 : Ext [] w2 w3) (hx48 : Ext [g] w3 w8) (hg : w2.heap.size ≤ g) : Bs w8 (fun _ => True) v l :=
  (((hv.imp (q := fun k => k < w2.heap.size) fun k hk _ => hk).keep hx3).ext hx48 fun k _ hk => by rw [List.mem_singleton]; omega).any

/-- What Read's walk meets behind the file's bytes. -/
structure Steps (l : List UInt8) (P : Parsed) (r1 r2 r3 r4 : RdS) : Prop where
  b1 : ∀ g w1, ReaderAt w1 g ⟨l, 0, false⟩ → Calls Tryz.prog 115 #[.pointer (some ⟨g, 0, none⟩)] w1 fun e w' => e = .returned (.int .u8 P.tag) ∧ ReaderAt w' g r1 ∧ Ext [g] w1 w'
  b8 : ∀ g w1, ReaderAt w1 g r1 → Calls Tryz.prog 116 #[.pointer (some ⟨g, 0, none⟩)] w1 fun e w' => e = .returned (.int .u64 P.num) ∧ ReaderAt w' g r2 ∧ Ext [g] w1 w'
  b4 : ∀ g w1, ReaderAt w1 g r2 → Calls Tryz.prog 117 #[.pointer (some ⟨g, 0, none⟩)] w1 fun e w' => e = .returned (.int .u32 P.size) ∧ ReaderAt w' g r3 ∧ Ext [g] w1 w'
  raw : ∀ g w1, ReaderAt w1 g r3 → Calls Tryz.prog 118 #[.pointer (some ⟨g, 0, none⟩), .int .i64 P.size] w1 fun e w' => ∃ v, e = .returned v ∧ Bs w' (w1.heap.size ≤ ·) v P.data ∧ ReaderAt w' g r4 ∧ Ext [g] w1 w'
  b5 : ∀ g w1, ReaderAt w1 g r4 → Calls Tryz.prog 117 #[.pointer (some ⟨g, 0, none⟩)] w1 fun e w' => e = .returned (.int .u32 P.sum) ∧ ReaderAt w' g P.fin ∧ Ext [g] w1 w'
  s0 : 0 ≤ P.size
  s1 : P.size < 4294967296

theorem steps_parse (l : List UInt8) : ∃ r1 r2 r3 r4, Steps l (parse l) r1 r2 r3 r4 := by
  have hs : 0 ≤ (parse l).size ∧ (parse l).size < 4294967296 := by
    have h1 := (valOf_bd ((((((⟨l, 0, false⟩ : RdS).next 1).next 8)).piece 4).getD [])).1
    have h2 := valOf_u4 _ (piece_len (((⟨l, 0, false⟩ : RdS).next 1).next 8) 4)
    exact ⟨h1, h2⟩
  refine ⟨_, _, _, _, ⟨fun g w1 h => rbyte_calls g _ w1 h, fun g w1 h => rlong_calls g _ w1 h, fun g w1 h => rword_calls g _ w1 h, fun g w1 h => rraw_calls g _ _ w1 h (by omega) (by omega), fun g w1 h => rword_calls g _ w1 h, hs.1, hs.2⟩⟩

set_option maxRecDepth 100000 in
set_option maxHeartbeats 4000000 in
theorem readC_main (gs d : Nat) (sv : Value) (s : DiskS) (k : Int) (w : World) (h : DiskAt w d sv s) (hst : Blk w gs 193 #[.pointer (some ⟨d, 0, none⟩)]) (hL : Lai w) (h0 : 0 ≤ k) (h1 : k ≤ 1073741824) :
    Calls Tryz.prog 42 #[.pointer (some ⟨gs, 0, none⟩), .int .i64 k] w (ReadCPost (s.readC k) w) := by
  have hR : s.readC k = if (s.read (nameOf k)).2 = 160 then ([], 160) else if wrongC (s.read (nameOf k)).2 k (s.read (nameOf k)).1 then ([], 190) else ((parse (s.read (nameOf k)).1).data, 0) := by
    unfold DiskS.readC; rw [if_neg (by omega)]
  generalize s.readC k = R at *
  have hN := name_calls k w.drew (by omega) (by omega) (hL.keep (Ext.refl [] w).drew)
  have hRd := fun w1 (hx : Ext [] w.drew w1) => read_calls d sv s (nameOf k) w1 (h.keep ((Ext.refl [] w).drew.trans' hx))
  have hll : (s.read (nameOf k)).1.length ≤ 50000000 := by
    unfold DiskS.read
    simp only
    split
    · exact Nat.zero_le _
    · split
      · exact Nat.zero_le _
      · next hh =>
        have hh' : has s.files (nameOf k) = true := by simpa using hh
        obtain ⟨f, hf⟩ := has_get hh'
        have hg : s.files.getD (idx s.files (nameOf k)) ⟨nameOf k, [], -1⟩ = f := by rw [List.getD_eq_getElem?_getD, hf]; rfl
        rw [hg]
        exact Nat.le_trans (used_get hf) h.used
  unfold ReadDPost at hRd
  generalize (s.read (nameOf k)).1 = l at *
  generalize (s.read (nameOf k)).2 = a at *
  have cs := hst.drew.cell 0
  simp only [List.getElem?_toArray, List.getElem?_cons_zero] at cs
  have hS : ∀ w1, Ext [] w.drew w1 → w1.cell? ⟨gs, 0, none⟩ = some (.pointer (some ⟨d, 0, none⟩)) := fun w1 hx => hx.cell_some cs
  have hRf := Ext.refl [] w.drew
  replace h := Lib.hid h
  replace hS := Lib.hid hS
  replace hRd := Lib.hid hRd
  replace hRf := Lib.hid hRf
  clear hst hL
  have s1 : IntKind.u64.wrap k = k := by rw [IntKind.wrap_u64]; omega
  by_cases ha : a = 160
  · subst ha
    rw [if_pos rfl] at hR
    subst hR
    go_enter Tryz.func42, Tryz.ntmps42
    go_wp2_with (fail)
    go_region_held3 (fun w' => w'.cell? ⟨gs, 0, none⟩ = some (.pointer (some ⟨d, 0, none⟩)))
      (first | exact hS.out _ (hx1.out.trans' hx2.out) | exact hS.out _ hx1.out | exact hS.out _ hRf.out)
      (first
        | (go_at_call 109; refine hN.mono ?_; rintro e w1 ⟨rfl, hx1⟩; replace hx1 := Lib.hid hx1)
        | (go_at_call 101; refine (hRd.out _ hx1.out).mono ?_; rintro e w2 ⟨v2, rfl, hv2, hx2⟩; replace hv2 := Lib.hid hv2; replace hx2 := Lib.hid hx2))
    all_goals
      go_wp2
      go_ret2
      exact ⟨_, rfl, Bs.nil, (Ext.refl [] w).drew.trans' (hx1.out.trans' hx2.out)⟩
  · rw [if_neg ha] at hR
    have ha' : (a == 160) = false := by simpa using ha
    obtain ⟨r1, r2, r3, r4, hP⟩ := steps_parse l
    have hlong := fun hb => parse_long (l := l) hb
    have hR1 : (a ≠ 0 ∨ (parse l).fin.bad = true ∨ 0 < ((parse l).fin.l.length : Int) - (parse l).fin.pos ∨ (parse l).tag ≠ 67 ∨ (parse l).num ≠ k ∨ 4194304 < (parse l).size ∨ (parse l).sum ≠ crcI (l.take (l.length - 4))) → R = ([], 190) := fun hw => by rw [hR]; exact if_pos hw
    have hR2 : ¬ (a ≠ 0 ∨ (parse l).fin.bad = true ∨ 0 < ((parse l).fin.l.length : Int) - (parse l).fin.pos ∨ (parse l).tag ≠ 67 ∨ (parse l).num ≠ k ∨ 4194304 < (parse l).size ∨ (parse l).sum ≠ crcI (l.take (l.length - 4))) → R = ((parse l).data, 0) := fun hw => by rw [hR]; exact if_neg hw
    clear hR
    generalize parse l = P at *
    have hLf : ∀ g w1, ReaderAt w1 g P.fin → Calls Tryz.prog 120 #[.pointer (some ⟨g, 0, none⟩)] w1 fun e w' => e = .returned (.int .i64 ((P.fin.l.length : Int) - P.fin.pos)) ∧ ∃ n, w' = w1.drewN n := fun g w1 h => left_calls g P.fin w1 h
    generalize ((P.fin.l.length : Int) - P.fin.pos) = lf at *
    have hSum : ∀ w1 A c, Bs w1 (fun _ => True) (.slice A l.length c) l → 4 ≤ l.length → Calls Tryz.prog 68 #[.slice A (l.length - 4) c] w1 fun e w' => e = .returned (.int .u32 (crcI (l.take (l.length - 4)))) ∧ Ext [] w1 w' := by
      intro w1 A c hb h4
      obtain ⟨A', c', e, _, _, _, hr⟩ := hb.take (n := l.length - 4) (by omega)
      injection e with e1 e2 e3
      subst e1
      exact sum_calls A (l.length - 4) c (l.take (l.length - 4)) w1 (by rw [List.length_take]; omega) _ hr (by omega)
    generalize crcI (l.take (l.length - 4)) = crc at *
    have s2 : IntKind.i64.wrap P.size = P.size := by rw [IntKind.wrap_i64]; have := hP.s0; have := hP.s1; omega
    have X : ∀ (g : Nat) (a b : World), w.heap.size ≤ g → Ext [g] a b → Ext [] w a → Ext [] w b := fun g a b hg hab hwa => hwa.trans hab fun k hk hl => by simp at hk; omega
    have hsz0 := hP.s0
    replace hP := Lib.hid hP
    replace hLf := Lib.hid hLf
    replace hSum := Lib.hid hSum
    replace hlong := Lib.hid hlong
    replace hR1 := Lib.hid hR1
    replace hR2 := Lib.hid hR2
    replace ha := Lib.hid ha
    replace hll := Lib.hid hll
    replace X := Lib.hid X
    by_cases hC1 : a ≠ 0
    · have hRr : R = ([], 190) := hR1.out (.inl hC1)
      replace hRr := Lib.hid hRr
      have hc0 : (a == 0) = false := by simpa using hC1
      replace hC1 := Lib.hid hC1
      go_enter Tryz.func42, Tryz.ntmps42
      go_wp2_with (fail)
      go_region_held3 (fun w' => w'.cell? ⟨gs, 0, none⟩ = some (.pointer (some ⟨d, 0, none⟩)))
        (first | exact hS.out _ (hx1.out.trans' hx2.out) | exact hS.out _ hx1.out | exact hS.out _ hRf.out)
        (first
          | (go_at_call 109; refine hN.mono ?_; rintro e w1 ⟨rfl, hx1⟩; replace hx1 := Lib.hid hx1)
          | (go_at_call 101; refine (hRd.out _ hx1.out).mono ?_; rintro e w2 ⟨v2, rfl, hv2, hx2⟩; obtain ⟨A2, c2, rfl, hc2⟩ := hv2.form; have hc3 : (l.length : Int) - 4 ≤ c2 := (by omega); replace hv2 := Lib.hid hv2; replace hx2 := Lib.hid hx2))
      all_goals
        go_wp2_with (first
          | (go_at_call 114; refine (ropen_calls _ _ l _ hv2.out (by have := hll.out; omega)).mono ?_; rintro e w3 ⟨g, rfl, hg, hr0, hx3⟩; replace hg := Lib.hid hg; replace hr0 := Lib.hid hr0; replace hx3 := Lib.hid hx3)
          | (go_at_call 115; refine (hP.out.b1 g _ hr0.out).mono ?_; rintro e w4 ⟨rfl, hr1, hx4⟩; replace hr1 := Lib.hid hr1; replace hx4 := Lib.hid hx4)
          | (go_at_call 116; refine (hP.out.b8 g _ hr1.out).mono ?_; rintro e w5 ⟨rfl, hr2, hx5⟩; replace hr2 := Lib.hid hr2; replace hx5 := Lib.hid hx5)
          | (go_at_call 117; refine (hP.out.b5 g _ hr4.out).mono ?_; rintro e w8 ⟨rfl, hr5, hx8⟩; replace hr5 := Lib.hid hr5; replace hx8 := Lib.hid hx8)
          | (go_at_call 117; refine (hP.out.b4 g _ hr2.out).mono ?_; rintro e w6 ⟨rfl, hr3, hx6⟩; replace hr3 := Lib.hid hr3; replace hx6 := Lib.hid hx6)
          | (go_at_call 118; refine (hP.out.raw g _ hr3.out).mono ?_; rintro e w7 ⟨v7, rfl, hd7, hr4, hx7⟩; replace hd7 := Lib.hid hd7; replace hr4 := Lib.hid hr4; replace hx7 := Lib.hid hx7)
          | (go_at_call 119; refine (bad_calls g P.fin _ hr5.out).mono ?_; rintro e w9 ⟨rfl, rfl⟩)
          | (go_at_call 120; refine (hLf.out g _ hr5.out).mono ?_; rintro e w9 ⟨rfl, n9, rfl⟩)
          | (go_at_call 68; refine (hSum.out _ _ _ (((hv2.out.past hx3.out (hx4.out.trans' (hx5.out.trans' (hx6.out.trans' (hx7.out.trans' hx8.out)))) hg.out).keep ((Ext.refl [] _).drewN n9))) hl4).mono ?_; rintro e w10 ⟨rfl, hx10⟩; replace hx10 := Lib.hid hx10))
        go_ret2
        have y2 : Ext [] w w2 := (Ext.refl [] w).drew.trans' (hx1.out.trans' hx2.out)
        have y3 := y2.new hx3.out
        have hg' : w.heap.size ≤ g := Nat.le_trans y2.size hg.out
        have y6 := X.out _ _ _ hg' hx6.out (X.out _ _ _ hg' hx5.out (X.out _ _ _ hg' hx4.out y3))
        have y8 := X.out _ _ _ hg' hx8.out (X.out _ _ _ hg' hx7.out y6)
        exact ⟨_, by rw [hRr.out]; rfl, by rw [hRr.out]; exact Bs.nil, y8⟩
    replace hC1 : a = 0 := by simpa using hC1
    subst hC1
    by_cases hC2 : P.fin.bad = true
    · have hRr : R = ([], 190) := hR1.out (.inr (.inl hC2))
      replace hRr := Lib.hid hRr
      skip
      go_enter Tryz.func42, Tryz.ntmps42
      go_wp2_with (fail)
      go_region_held3 (fun w' => w'.cell? ⟨gs, 0, none⟩ = some (.pointer (some ⟨d, 0, none⟩)))
        (first | exact hS.out _ (hx1.out.trans' hx2.out) | exact hS.out _ hx1.out | exact hS.out _ hRf.out)
        (first
          | (go_at_call 109; refine hN.mono ?_; rintro e w1 ⟨rfl, hx1⟩; replace hx1 := Lib.hid hx1)
          | (go_at_call 101; refine (hRd.out _ hx1.out).mono ?_; rintro e w2 ⟨v2, rfl, hv2, hx2⟩; obtain ⟨A2, c2, rfl, hc2⟩ := hv2.form; have hc3 : (l.length : Int) - 4 ≤ c2 := (by omega); replace hv2 := Lib.hid hv2; replace hx2 := Lib.hid hx2))
      all_goals
        go_wp2_with (first
          | (go_at_call 114; refine (ropen_calls _ _ l _ hv2.out (by have := hll.out; omega)).mono ?_; rintro e w3 ⟨g, rfl, hg, hr0, hx3⟩; replace hg := Lib.hid hg; replace hr0 := Lib.hid hr0; replace hx3 := Lib.hid hx3)
          | (go_at_call 115; refine (hP.out.b1 g _ hr0.out).mono ?_; rintro e w4 ⟨rfl, hr1, hx4⟩; replace hr1 := Lib.hid hr1; replace hx4 := Lib.hid hx4)
          | (go_at_call 116; refine (hP.out.b8 g _ hr1.out).mono ?_; rintro e w5 ⟨rfl, hr2, hx5⟩; replace hr2 := Lib.hid hr2; replace hx5 := Lib.hid hx5)
          | (go_at_call 117; refine (hP.out.b5 g _ hr4.out).mono ?_; rintro e w8 ⟨rfl, hr5, hx8⟩; replace hr5 := Lib.hid hr5; replace hx8 := Lib.hid hx8)
          | (go_at_call 117; refine (hP.out.b4 g _ hr2.out).mono ?_; rintro e w6 ⟨rfl, hr3, hx6⟩; replace hr3 := Lib.hid hr3; replace hx6 := Lib.hid hx6)
          | (go_at_call 118; refine (hP.out.raw g _ hr3.out).mono ?_; rintro e w7 ⟨v7, rfl, hd7, hr4, hx7⟩; replace hd7 := Lib.hid hd7; replace hr4 := Lib.hid hr4; replace hx7 := Lib.hid hx7)
          | (go_at_call 119; refine (bad_calls g P.fin _ hr5.out).mono ?_; rintro e w9 ⟨rfl, rfl⟩)
          | (go_at_call 120; refine (hLf.out g _ hr5.out).mono ?_; rintro e w9 ⟨rfl, n9, rfl⟩)
          | (go_at_call 68; refine (hSum.out _ _ _ (((hv2.out.past hx3.out (hx4.out.trans' (hx5.out.trans' (hx6.out.trans' (hx7.out.trans' hx8.out)))) hg.out).keep ((Ext.refl [] _).drewN n9))) hl4).mono ?_; rintro e w10 ⟨rfl, hx10⟩; replace hx10 := Lib.hid hx10))
        go_ret2
        have y2 : Ext [] w w2 := (Ext.refl [] w).drew.trans' (hx1.out.trans' hx2.out)
        have y3 := y2.new hx3.out
        have hg' : w.heap.size ≤ g := Nat.le_trans y2.size hg.out
        have y6 := X.out _ _ _ hg' hx6.out (X.out _ _ _ hg' hx5.out (X.out _ _ _ hg' hx4.out y3))
        have y8 := X.out _ _ _ hg' hx8.out (X.out _ _ _ hg' hx7.out y6)
        exact ⟨_, by rw [hRr.out]; rfl, by rw [hRr.out]; exact Bs.nil, y8⟩
    replace hC2 : P.fin.bad = false := by simpa using hC2
    have hl17 := hlong.out hC2
    have hl4 : 4 ≤ l.length := by omega
    have hl4i : (4 : Int) ≤ l.length := by omega
    have sL : IntKind.i64.wrap ((l.length : Int) - 4) = (l.length : Int) - 4 := by rw [IntKind.wrap_i64]; have := hll.out; omega
    have sL0 : (0 : Int) ≤ (l.length : Int) - 4 := by omega
    have sLn : ((l.length : Int) - 4).toNat = l.length - 4 := by omega
    by_cases hC3 : 0 < lf
    · have hRr : R = ([], 190) := hR1.out (.inr (.inr (.inl hC3)))
      replace hRr := Lib.hid hRr
      skip
      go_enter Tryz.func42, Tryz.ntmps42
      go_wp2_with (fail)
      go_region_held3 (fun w' => w'.cell? ⟨gs, 0, none⟩ = some (.pointer (some ⟨d, 0, none⟩)))
        (first | exact hS.out _ (hx1.out.trans' hx2.out) | exact hS.out _ hx1.out | exact hS.out _ hRf.out)
        (first
          | (go_at_call 109; refine hN.mono ?_; rintro e w1 ⟨rfl, hx1⟩; replace hx1 := Lib.hid hx1)
          | (go_at_call 101; refine (hRd.out _ hx1.out).mono ?_; rintro e w2 ⟨v2, rfl, hv2, hx2⟩; obtain ⟨A2, c2, rfl, hc2⟩ := hv2.form; have hc3 : (l.length : Int) - 4 ≤ c2 := (by omega); replace hv2 := Lib.hid hv2; replace hx2 := Lib.hid hx2))
      all_goals
        go_wp2_with (first
          | (go_at_call 114; refine (ropen_calls _ _ l _ hv2.out (by have := hll.out; omega)).mono ?_; rintro e w3 ⟨g, rfl, hg, hr0, hx3⟩; replace hg := Lib.hid hg; replace hr0 := Lib.hid hr0; replace hx3 := Lib.hid hx3)
          | (go_at_call 115; refine (hP.out.b1 g _ hr0.out).mono ?_; rintro e w4 ⟨rfl, hr1, hx4⟩; replace hr1 := Lib.hid hr1; replace hx4 := Lib.hid hx4)
          | (go_at_call 116; refine (hP.out.b8 g _ hr1.out).mono ?_; rintro e w5 ⟨rfl, hr2, hx5⟩; replace hr2 := Lib.hid hr2; replace hx5 := Lib.hid hx5)
          | (go_at_call 117; refine (hP.out.b5 g _ hr4.out).mono ?_; rintro e w8 ⟨rfl, hr5, hx8⟩; replace hr5 := Lib.hid hr5; replace hx8 := Lib.hid hx8)
          | (go_at_call 117; refine (hP.out.b4 g _ hr2.out).mono ?_; rintro e w6 ⟨rfl, hr3, hx6⟩; replace hr3 := Lib.hid hr3; replace hx6 := Lib.hid hx6)
          | (go_at_call 118; refine (hP.out.raw g _ hr3.out).mono ?_; rintro e w7 ⟨v7, rfl, hd7, hr4, hx7⟩; replace hd7 := Lib.hid hd7; replace hr4 := Lib.hid hr4; replace hx7 := Lib.hid hx7)
          | (go_at_call 119; refine (bad_calls g P.fin _ hr5.out).mono ?_; rintro e w9 ⟨rfl, rfl⟩)
          | (go_at_call 120; refine (hLf.out g _ hr5.out).mono ?_; rintro e w9 ⟨rfl, n9, rfl⟩)
          | (go_at_call 68; refine (hSum.out _ _ _ (((hv2.out.past hx3.out (hx4.out.trans' (hx5.out.trans' (hx6.out.trans' (hx7.out.trans' hx8.out)))) hg.out).keep ((Ext.refl [] _).drewN n9))) hl4).mono ?_; rintro e w10 ⟨rfl, hx10⟩; replace hx10 := Lib.hid hx10))
        go_ret2
        have y2 : Ext [] w w2 := (Ext.refl [] w).drew.trans' (hx1.out.trans' hx2.out)
        have y3 := y2.new hx3.out
        have hg' : w.heap.size ≤ g := Nat.le_trans y2.size hg.out
        have y6 := X.out _ _ _ hg' hx6.out (X.out _ _ _ hg' hx5.out (X.out _ _ _ hg' hx4.out y3))
        have y8 := X.out _ _ _ hg' hx8.out (X.out _ _ _ hg' hx7.out y6)
        exact ⟨_, by rw [hRr.out]; rfl, by rw [hRr.out]; exact Bs.nil, (y8.drewN n9)⟩
    replace hC3 : lf ≤ 0 := by omega
    by_cases hC4 : P.tag ≠ 67
    · have hRr : R = ([], 190) := hR1.out (.inr (.inr (.inr (.inl hC4))))
      replace hRr := Lib.hid hRr
      have hc4 : (P.tag == 67) = false := by simpa using hC4
      replace hC4 := Lib.hid hC4
      go_enter Tryz.func42, Tryz.ntmps42
      go_wp2_with (fail)
      go_region_held3 (fun w' => w'.cell? ⟨gs, 0, none⟩ = some (.pointer (some ⟨d, 0, none⟩)))
        (first | exact hS.out _ (hx1.out.trans' hx2.out) | exact hS.out _ hx1.out | exact hS.out _ hRf.out)
        (first
          | (go_at_call 109; refine hN.mono ?_; rintro e w1 ⟨rfl, hx1⟩; replace hx1 := Lib.hid hx1)
          | (go_at_call 101; refine (hRd.out _ hx1.out).mono ?_; rintro e w2 ⟨v2, rfl, hv2, hx2⟩; obtain ⟨A2, c2, rfl, hc2⟩ := hv2.form; have hc3 : (l.length : Int) - 4 ≤ c2 := (by omega); replace hv2 := Lib.hid hv2; replace hx2 := Lib.hid hx2))
      all_goals
        go_wp2_with (first
          | (go_at_call 114; refine (ropen_calls _ _ l _ hv2.out (by have := hll.out; omega)).mono ?_; rintro e w3 ⟨g, rfl, hg, hr0, hx3⟩; replace hg := Lib.hid hg; replace hr0 := Lib.hid hr0; replace hx3 := Lib.hid hx3)
          | (go_at_call 115; refine (hP.out.b1 g _ hr0.out).mono ?_; rintro e w4 ⟨rfl, hr1, hx4⟩; replace hr1 := Lib.hid hr1; replace hx4 := Lib.hid hx4)
          | (go_at_call 116; refine (hP.out.b8 g _ hr1.out).mono ?_; rintro e w5 ⟨rfl, hr2, hx5⟩; replace hr2 := Lib.hid hr2; replace hx5 := Lib.hid hx5)
          | (go_at_call 117; refine (hP.out.b5 g _ hr4.out).mono ?_; rintro e w8 ⟨rfl, hr5, hx8⟩; replace hr5 := Lib.hid hr5; replace hx8 := Lib.hid hx8)
          | (go_at_call 117; refine (hP.out.b4 g _ hr2.out).mono ?_; rintro e w6 ⟨rfl, hr3, hx6⟩; replace hr3 := Lib.hid hr3; replace hx6 := Lib.hid hx6)
          | (go_at_call 118; refine (hP.out.raw g _ hr3.out).mono ?_; rintro e w7 ⟨v7, rfl, hd7, hr4, hx7⟩; replace hd7 := Lib.hid hd7; replace hr4 := Lib.hid hr4; replace hx7 := Lib.hid hx7)
          | (go_at_call 119; refine (bad_calls g P.fin _ hr5.out).mono ?_; rintro e w9 ⟨rfl, rfl⟩)
          | (go_at_call 120; refine (hLf.out g _ hr5.out).mono ?_; rintro e w9 ⟨rfl, n9, rfl⟩)
          | (go_at_call 68; refine (hSum.out _ _ _ (((hv2.out.past hx3.out (hx4.out.trans' (hx5.out.trans' (hx6.out.trans' (hx7.out.trans' hx8.out)))) hg.out).keep ((Ext.refl [] _).drewN n9))) hl4).mono ?_; rintro e w10 ⟨rfl, hx10⟩; replace hx10 := Lib.hid hx10))
        go_ret2
        have y2 : Ext [] w w2 := (Ext.refl [] w).drew.trans' (hx1.out.trans' hx2.out)
        have y3 := y2.new hx3.out
        have hg' : w.heap.size ≤ g := Nat.le_trans y2.size hg.out
        have y6 := X.out _ _ _ hg' hx6.out (X.out _ _ _ hg' hx5.out (X.out _ _ _ hg' hx4.out y3))
        have y8 := X.out _ _ _ hg' hx8.out (X.out _ _ _ hg' hx7.out y6)
        exact ⟨_, by rw [hRr.out]; rfl, by rw [hRr.out]; exact Bs.nil, (y8.drewN n9)⟩
    replace hC4 : P.tag = 67 := by simpa using hC4
    by_cases hC5 : P.num ≠ k
    · have hRr : R = ([], 190) := hR1.out (.inr (.inr (.inr (.inr (.inl hC5)))))
      replace hRr := Lib.hid hRr
      have hc5 : (P.num == k) = false := by simpa using hC5
      replace hC5 := Lib.hid hC5
      go_enter Tryz.func42, Tryz.ntmps42
      go_wp2_with (fail)
      go_region_held3 (fun w' => w'.cell? ⟨gs, 0, none⟩ = some (.pointer (some ⟨d, 0, none⟩)))
        (first | exact hS.out _ (hx1.out.trans' hx2.out) | exact hS.out _ hx1.out | exact hS.out _ hRf.out)
        (first
          | (go_at_call 109; refine hN.mono ?_; rintro e w1 ⟨rfl, hx1⟩; replace hx1 := Lib.hid hx1)
          | (go_at_call 101; refine (hRd.out _ hx1.out).mono ?_; rintro e w2 ⟨v2, rfl, hv2, hx2⟩; obtain ⟨A2, c2, rfl, hc2⟩ := hv2.form; have hc3 : (l.length : Int) - 4 ≤ c2 := (by omega); replace hv2 := Lib.hid hv2; replace hx2 := Lib.hid hx2))
      all_goals
        go_wp2_with (first
          | (go_at_call 114; refine (ropen_calls _ _ l _ hv2.out (by have := hll.out; omega)).mono ?_; rintro e w3 ⟨g, rfl, hg, hr0, hx3⟩; replace hg := Lib.hid hg; replace hr0 := Lib.hid hr0; replace hx3 := Lib.hid hx3)
          | (go_at_call 115; refine (hP.out.b1 g _ hr0.out).mono ?_; rintro e w4 ⟨rfl, hr1, hx4⟩; replace hr1 := Lib.hid hr1; replace hx4 := Lib.hid hx4)
          | (go_at_call 116; refine (hP.out.b8 g _ hr1.out).mono ?_; rintro e w5 ⟨rfl, hr2, hx5⟩; replace hr2 := Lib.hid hr2; replace hx5 := Lib.hid hx5)
          | (go_at_call 117; refine (hP.out.b5 g _ hr4.out).mono ?_; rintro e w8 ⟨rfl, hr5, hx8⟩; replace hr5 := Lib.hid hr5; replace hx8 := Lib.hid hx8)
          | (go_at_call 117; refine (hP.out.b4 g _ hr2.out).mono ?_; rintro e w6 ⟨rfl, hr3, hx6⟩; replace hr3 := Lib.hid hr3; replace hx6 := Lib.hid hx6)
          | (go_at_call 118; refine (hP.out.raw g _ hr3.out).mono ?_; rintro e w7 ⟨v7, rfl, hd7, hr4, hx7⟩; replace hd7 := Lib.hid hd7; replace hr4 := Lib.hid hr4; replace hx7 := Lib.hid hx7)
          | (go_at_call 119; refine (bad_calls g P.fin _ hr5.out).mono ?_; rintro e w9 ⟨rfl, rfl⟩)
          | (go_at_call 120; refine (hLf.out g _ hr5.out).mono ?_; rintro e w9 ⟨rfl, n9, rfl⟩)
          | (go_at_call 68; refine (hSum.out _ _ _ (((hv2.out.past hx3.out (hx4.out.trans' (hx5.out.trans' (hx6.out.trans' (hx7.out.trans' hx8.out)))) hg.out).keep ((Ext.refl [] _).drewN n9))) hl4).mono ?_; rintro e w10 ⟨rfl, hx10⟩; replace hx10 := Lib.hid hx10))
        go_ret2
        have y2 : Ext [] w w2 := (Ext.refl [] w).drew.trans' (hx1.out.trans' hx2.out)
        have y3 := y2.new hx3.out
        have hg' : w.heap.size ≤ g := Nat.le_trans y2.size hg.out
        have y6 := X.out _ _ _ hg' hx6.out (X.out _ _ _ hg' hx5.out (X.out _ _ _ hg' hx4.out y3))
        have y8 := X.out _ _ _ hg' hx8.out (X.out _ _ _ hg' hx7.out y6)
        exact ⟨_, by rw [hRr.out]; rfl, by rw [hRr.out]; exact Bs.nil, (y8.drewN n9)⟩
    replace hC5 : P.num = k := by simpa using hC5
    by_cases hC6 : 4194304 < P.size
    · have hRr : R = ([], 190) := hR1.out (.inr (.inr (.inr (.inr (.inr (.inl hC6))))))
      replace hRr := Lib.hid hRr
      skip
      go_enter Tryz.func42, Tryz.ntmps42
      go_wp2_with (fail)
      go_region_held3 (fun w' => w'.cell? ⟨gs, 0, none⟩ = some (.pointer (some ⟨d, 0, none⟩)))
        (first | exact hS.out _ (hx1.out.trans' hx2.out) | exact hS.out _ hx1.out | exact hS.out _ hRf.out)
        (first
          | (go_at_call 109; refine hN.mono ?_; rintro e w1 ⟨rfl, hx1⟩; replace hx1 := Lib.hid hx1)
          | (go_at_call 101; refine (hRd.out _ hx1.out).mono ?_; rintro e w2 ⟨v2, rfl, hv2, hx2⟩; obtain ⟨A2, c2, rfl, hc2⟩ := hv2.form; have hc3 : (l.length : Int) - 4 ≤ c2 := (by omega); replace hv2 := Lib.hid hv2; replace hx2 := Lib.hid hx2))
      all_goals
        go_wp2_with (first
          | (go_at_call 114; refine (ropen_calls _ _ l _ hv2.out (by have := hll.out; omega)).mono ?_; rintro e w3 ⟨g, rfl, hg, hr0, hx3⟩; replace hg := Lib.hid hg; replace hr0 := Lib.hid hr0; replace hx3 := Lib.hid hx3)
          | (go_at_call 115; refine (hP.out.b1 g _ hr0.out).mono ?_; rintro e w4 ⟨rfl, hr1, hx4⟩; replace hr1 := Lib.hid hr1; replace hx4 := Lib.hid hx4)
          | (go_at_call 116; refine (hP.out.b8 g _ hr1.out).mono ?_; rintro e w5 ⟨rfl, hr2, hx5⟩; replace hr2 := Lib.hid hr2; replace hx5 := Lib.hid hx5)
          | (go_at_call 117; refine (hP.out.b5 g _ hr4.out).mono ?_; rintro e w8 ⟨rfl, hr5, hx8⟩; replace hr5 := Lib.hid hr5; replace hx8 := Lib.hid hx8)
          | (go_at_call 117; refine (hP.out.b4 g _ hr2.out).mono ?_; rintro e w6 ⟨rfl, hr3, hx6⟩; replace hr3 := Lib.hid hr3; replace hx6 := Lib.hid hx6)
          | (go_at_call 118; refine (hP.out.raw g _ hr3.out).mono ?_; rintro e w7 ⟨v7, rfl, hd7, hr4, hx7⟩; replace hd7 := Lib.hid hd7; replace hr4 := Lib.hid hr4; replace hx7 := Lib.hid hx7)
          | (go_at_call 119; refine (bad_calls g P.fin _ hr5.out).mono ?_; rintro e w9 ⟨rfl, rfl⟩)
          | (go_at_call 120; refine (hLf.out g _ hr5.out).mono ?_; rintro e w9 ⟨rfl, n9, rfl⟩)
          | (go_at_call 68; refine (hSum.out _ _ _ (((hv2.out.past hx3.out (hx4.out.trans' (hx5.out.trans' (hx6.out.trans' (hx7.out.trans' hx8.out)))) hg.out).keep ((Ext.refl [] _).drewN n9))) hl4).mono ?_; rintro e w10 ⟨rfl, hx10⟩; replace hx10 := Lib.hid hx10))
        go_ret2
        have y2 : Ext [] w w2 := (Ext.refl [] w).drew.trans' (hx1.out.trans' hx2.out)
        have y3 := y2.new hx3.out
        have hg' : w.heap.size ≤ g := Nat.le_trans y2.size hg.out
        have y6 := X.out _ _ _ hg' hx6.out (X.out _ _ _ hg' hx5.out (X.out _ _ _ hg' hx4.out y3))
        have y8 := X.out _ _ _ hg' hx8.out (X.out _ _ _ hg' hx7.out y6)
        exact ⟨_, by rw [hRr.out]; rfl, by rw [hRr.out]; exact Bs.nil, (y8.drewN n9)⟩
    replace hC6 : P.size ≤ 4194304 := by omega
    by_cases hC7 : P.sum ≠ crc
    · have hRr : R = ([], 190) := hR1.out (.inr (.inr (.inr (.inr (.inr (.inr hC7))))))
      replace hRr := Lib.hid hRr
      have hc7 : (P.sum == crc) = false := by simpa using hC7
      have hc8 : (P.sum != crc) = true := by simpa using hC7
      replace hC7 := Lib.hid hC7
      go_enter Tryz.func42, Tryz.ntmps42
      go_wp2_with (fail)
      go_region_held3 (fun w' => w'.cell? ⟨gs, 0, none⟩ = some (.pointer (some ⟨d, 0, none⟩)))
        (first | exact hS.out _ (hx1.out.trans' hx2.out) | exact hS.out _ hx1.out | exact hS.out _ hRf.out)
        (first
          | (go_at_call 109; refine hN.mono ?_; rintro e w1 ⟨rfl, hx1⟩; replace hx1 := Lib.hid hx1)
          | (go_at_call 101; refine (hRd.out _ hx1.out).mono ?_; rintro e w2 ⟨v2, rfl, hv2, hx2⟩; obtain ⟨A2, c2, rfl, hc2⟩ := hv2.form; have hc3 : (l.length : Int) - 4 ≤ c2 := (by omega); replace hv2 := Lib.hid hv2; replace hx2 := Lib.hid hx2))
      all_goals
        go_wp2_with (first
          | (go_at_call 114; refine (ropen_calls _ _ l _ hv2.out (by have := hll.out; omega)).mono ?_; rintro e w3 ⟨g, rfl, hg, hr0, hx3⟩; replace hg := Lib.hid hg; replace hr0 := Lib.hid hr0; replace hx3 := Lib.hid hx3)
          | (go_at_call 115; refine (hP.out.b1 g _ hr0.out).mono ?_; rintro e w4 ⟨rfl, hr1, hx4⟩; replace hr1 := Lib.hid hr1; replace hx4 := Lib.hid hx4)
          | (go_at_call 116; refine (hP.out.b8 g _ hr1.out).mono ?_; rintro e w5 ⟨rfl, hr2, hx5⟩; replace hr2 := Lib.hid hr2; replace hx5 := Lib.hid hx5)
          | (go_at_call 117; refine (hP.out.b5 g _ hr4.out).mono ?_; rintro e w8 ⟨rfl, hr5, hx8⟩; replace hr5 := Lib.hid hr5; replace hx8 := Lib.hid hx8)
          | (go_at_call 117; refine (hP.out.b4 g _ hr2.out).mono ?_; rintro e w6 ⟨rfl, hr3, hx6⟩; replace hr3 := Lib.hid hr3; replace hx6 := Lib.hid hx6)
          | (go_at_call 118; refine (hP.out.raw g _ hr3.out).mono ?_; rintro e w7 ⟨v7, rfl, hd7, hr4, hx7⟩; replace hd7 := Lib.hid hd7; replace hr4 := Lib.hid hr4; replace hx7 := Lib.hid hx7)
          | (go_at_call 119; refine (bad_calls g P.fin _ hr5.out).mono ?_; rintro e w9 ⟨rfl, rfl⟩)
          | (go_at_call 120; refine (hLf.out g _ hr5.out).mono ?_; rintro e w9 ⟨rfl, n9, rfl⟩)
          | (go_at_call 68; refine (hSum.out _ _ _ (((hv2.out.past hx3.out (hx4.out.trans' (hx5.out.trans' (hx6.out.trans' (hx7.out.trans' hx8.out)))) hg.out).keep ((Ext.refl [] _).drewN n9))) hl4).mono ?_; rintro e w10 ⟨rfl, hx10⟩; replace hx10 := Lib.hid hx10))
        go_ret2
        have y2 : Ext [] w w2 := (Ext.refl [] w).drew.trans' (hx1.out.trans' hx2.out)
        have y3 := y2.new hx3.out
        have hg' : w.heap.size ≤ g := Nat.le_trans y2.size hg.out
        have y6 := X.out _ _ _ hg' hx6.out (X.out _ _ _ hg' hx5.out (X.out _ _ _ hg' hx4.out y3))
        have y8 := X.out _ _ _ hg' hx8.out (X.out _ _ _ hg' hx7.out y6)
        exact ⟨_, by rw [hRr.out]; rfl, by rw [hRr.out]; exact Bs.nil, ((y8.drewN n9).new hx10.out)⟩
    replace hC7 : P.sum = crc := by simpa using hC7
    have hc7 : (P.sum == crc) = true := by rw [hC7]; exact beq_self_eq_true _
    have hc8 : (P.sum != crc) = false := by rw [hC7]; exact bne_self_eq_false _
    have hRr : R = (P.data, 0) := hR2.out (by rw [hC2, hC4, hC5, hC7]; simp; omega)
    replace hRr := Lib.hid hRr
    replace hC7 := Lib.hid hC7
    · go_enter Tryz.func42, Tryz.ntmps42
      go_wp2_with (fail)
      go_region_held3 (fun w' => w'.cell? ⟨gs, 0, none⟩ = some (.pointer (some ⟨d, 0, none⟩)))
        (first | exact hS.out _ (hx1.out.trans' hx2.out) | exact hS.out _ hx1.out | exact hS.out _ hRf.out)
        (first
          | (go_at_call 109; refine hN.mono ?_; rintro e w1 ⟨rfl, hx1⟩; replace hx1 := Lib.hid hx1)
          | (go_at_call 101; refine (hRd.out _ hx1.out).mono ?_; rintro e w2 ⟨v2, rfl, hv2, hx2⟩; obtain ⟨A2, c2, rfl, hc2⟩ := hv2.form; have hc3 : (l.length : Int) - 4 ≤ c2 := (by omega); replace hv2 := Lib.hid hv2; replace hx2 := Lib.hid hx2))
      all_goals
        go_wp2_with (first
          | (go_at_call 114; refine (ropen_calls _ _ l _ hv2.out (by have := hll.out; omega)).mono ?_; rintro e w3 ⟨g, rfl, hg, hr0, hx3⟩; replace hg := Lib.hid hg; replace hr0 := Lib.hid hr0; replace hx3 := Lib.hid hx3)
          | (go_at_call 115; refine (hP.out.b1 g _ hr0.out).mono ?_; rintro e w4 ⟨rfl, hr1, hx4⟩; replace hr1 := Lib.hid hr1; replace hx4 := Lib.hid hx4)
          | (go_at_call 116; refine (hP.out.b8 g _ hr1.out).mono ?_; rintro e w5 ⟨rfl, hr2, hx5⟩; replace hr2 := Lib.hid hr2; replace hx5 := Lib.hid hx5)
          | (go_at_call 117; refine (hP.out.b5 g _ hr4.out).mono ?_; rintro e w8 ⟨rfl, hr5, hx8⟩; replace hr5 := Lib.hid hr5; replace hx8 := Lib.hid hx8)
          | (go_at_call 117; refine (hP.out.b4 g _ hr2.out).mono ?_; rintro e w6 ⟨rfl, hr3, hx6⟩; replace hr3 := Lib.hid hr3; replace hx6 := Lib.hid hx6)
          | (go_at_call 118; refine (hP.out.raw g _ hr3.out).mono ?_; rintro e w7 ⟨v7, rfl, hd7, hr4, hx7⟩; replace hd7 := Lib.hid hd7; replace hr4 := Lib.hid hr4; replace hx7 := Lib.hid hx7)
          | (go_at_call 119; refine (bad_calls g P.fin _ hr5.out).mono ?_; rintro e w9 ⟨rfl, rfl⟩)
          | (go_at_call 120; refine (hLf.out g _ hr5.out).mono ?_; rintro e w9 ⟨rfl, n9, rfl⟩)
          | (go_at_call 68; refine (hSum.out _ _ _ (((hv2.out.past hx3.out (hx4.out.trans' (hx5.out.trans' (hx6.out.trans' (hx7.out.trans' hx8.out)))) hg.out).keep ((Ext.refl [] _).drewN n9))) hl4).mono ?_; rintro e w10 ⟨rfl, hx10⟩; replace hx10 := Lib.hid hx10))
        go_ret2
        have y2 : Ext [] w w2 := (Ext.refl [] w).drew.trans' (hx1.out.trans' hx2.out)
        have y3 := y2.new hx3.out
        have hg' : w.heap.size ≤ g := Nat.le_trans y2.size hg.out
        have y6 := X.out _ _ _ hg' hx6.out (X.out _ _ _ hg' hx5.out (X.out _ _ _ hg' hx4.out y3))
        have y8 := X.out _ _ _ hg' hx8.out (X.out _ _ _ hg' hx7.out y6)
        have hg6 := hr3.out.lt
        have h6s := y6.size
        exact ⟨_, by rw [hRr.out]; rfl, by rw [hRr.out]; exact (((hd7.out.ext hx8.out fun q _ hq => by rw [List.mem_singleton]; omega).keep ((Ext.refl [] _).drewN n9)).keep hx10.out).imp fun q _ hq => by omega, (y8.drewN n9).new hx10.out⟩

theorem readC_calls (gs d : Nat) (sv : Value) (s : DiskS) (k : Int) (w : World) (h : DiskAt w d sv s) (hst : Blk w gs 193 #[.pointer (some ⟨d, 0, none⟩)]) (hL : Lai w) :
    Calls Tryz.prog 42 #[.pointer (some ⟨gs, 0, none⟩), .int .i64 k] w (ReadCPost (s.readC k) w) := by
  by_cases he : k < 0 ∨ 1073741824 < k
  · exact readC_early gs d s k w he
  · exact readC_main gs d sv s k w h hst hL (by omega) (by omega)
end Go.Proofs.YtpjekppljaekoaaGreatDoor
namespace Go.Proofs.YtpjekppljaekoaaGreatDoor
open Go Go.RowKit

theorem Tryz.info9 : (Tryz.prog.info? 9).map (fun i => (i.zero, i.size, i.bytes)) = some (some (.string ⟨#[]⟩), 1, 16) := by kernel_rfl

theorem own_keep {w w' : World} {base : Nat} {e : TypeId} {size n : Nat} {v : Value} {xs : List Value} (h : w.ownsRow base e size v n xs) (hx : Ext [] w w') : w'.ownsRow base e size v n xs := by
  refine ⟨h.1, ?_⟩
  rcases h.2 with h | ⟨g, cap, cur, e, hb, hh, r⟩
  · exact .inl h
  · exact .inr ⟨g, cap, cur, e, hb, by rw [hx.block g (lt_of_heap hh) (by simp)]; exact hh, r⟩

theorem make_names (n : Nat) (h : n ≤ 200000) : ∃ cs : Array Value, cs.size = n ∧ ∀ w : World, (Instr.makeSlice 92 (.int .i64 0) (.int .i64 (n : Int))).run Tryz.prog w = .ok (.slice (some ⟨w.heap.size, 0, none⟩) 0 n) (w.alloc (.cells cs 9)) := by
  obtain ⟨i0, hi, hz0, hz1, hz2⟩ := info_parts Tryz.info9
  refine ⟨madeCells (Value.string ⟨#[]⟩).cells (n * 1), ?_, fun w => ?_⟩
  · have := congrArg List.length (toList_madeCells_one (.string ⟨#[]⟩) n)
    simpa [Value.cells] using this
  · have := run_make (P := Tryz.prog) w 92 9 i0 _ Tryz.underlying92 hi hz0 .i64 .i64 0 n (by omega) (by omega) (by rw [hz2]; omega) (by omega)
    rw [this, hz1]
    simp

def NamesPost (fs : List FileS) (w : World) (e : Ending) (w' : World) : Prop :=
  ∃ v, e = .returned v ∧ w'.ownsRow w.heap.size 9 1 v fs.length (fs.map fun f => .string f.nm) ∧ Ext [] w w'

set_option maxRecDepth 100000 in
set_option maxHeartbeats 1000000 in
theorem names_calls (d : Nat) (sv : Value) (s : DiskS) (w : World) (h : DiskAt w d sv s) :
    Calls Tryz.prog 60 #[.pointer (some ⟨d, 0, none⟩)] w (NamesPost s.files w) := by
  obtain ⟨c0, _⟩ := h.cells
  have hm := h.many
  have hf := h.files
  have hlt := h.blk.lt
  clear h
  obtain ⟨A, cap, rfl, h1, _, _⟩ := hf.form
  replace hf := Lib.hid hf
  obtain ⟨i0, hi0, hz0, hz1, hz2⟩ := info_parts Tryz.info9
  generalize hn : s.files.length = n at *
  have hm' : (n : Int) ≤ 100000 := by omega
  have h1' : (n : Int) ≤ cap := by omega
  have hn0 : (0 : Int) ≤ n := by omega
  obtain ⟨cs, hcs, hmk⟩ := make_names n (by omega)
  replace hcs := Lib.hid hcs
  replace hn := Lib.hid hn
  replace hlt := Lib.hid hlt
  replace hz0 := Lib.hid hz0
  replace hz1 := Lib.hid hz1
  replace hz2 := Lib.hid hz2
  replace hi0 := Lib.hid hi0
  replace hm := Lib.hid hm
  replace h1 := Lib.hid h1
  have hown0 : (w.alloc (.cells cs 9)).ownsRow w.heap.size 9 1 (.slice (some ⟨w.heap.size, 0, none⟩) 0 n) 0 [] := ⟨rfl, .inr ⟨w.heap.size, n, cs, rfl, Nat.le_refl _, Blk.new w 9 cs, Nat.zero_le _, by have := hm.out; unfold maxLen; omega, by rw [hcs.out]; omega, by simp⟩⟩
  have hx0 : Ext [] w (w.alloc (.cells cs 9)) := (Ext.refl [] w).alloc _
  have e0 := hx0.cell_some c0
  replace hown0 := Lib.hid hown0
  replace hx0 := Lib.hid hx0
  go_enter Tryz.func60, Tryz.ntmps60
  go_wp2
  go_loopw [3, 19] (fun v i wr => ∃ k : Nat, k ≤ n ∧ i = .int .i64 k ∧ ∃ A' c', v = .slice A' k c' ∧ Hid (wr.ownsRow w.heap.size 9 1 (.slice A' k c') k ((s.files.take k).map fun f => .string f.nm)) ∧ Hid (Ext [] w wr)) (fun _ i _ => n - (intOf i).toNat)
  case atStart => exact ⟨0, by omega, rfl, _, _, rfl, hown0, hx0⟩
  case round =>
    obtain ⟨k, hk, rfl, A', c', rfl, hown, hx⟩ := hrel
    by_cases hkn : k < n
    · obtain ⟨f, hget⟩ : ∃ f, s.files[k]? = some f := ⟨_, List.getElem?_eq_getElem (by have := hn.out; omega)⟩
      obtain ⟨g, b, rfl, q0, q1, q2, hb, _, _⟩ := hf.out.at hget
      obtain ⟨Ab, cb, rfl, _⟩ := hb.form
      have d0 := hx.out.cell_some q0
      have d1 := hx.out.cell_some q1
      have d2 := hx.out.cell_some q2
      have hkI : (k : Int) < n := by omega
      have hk0 : (0 : Int) ≤ k := by omega
      have hsz := hx.out.size
      replace hget := Lib.hid hget
      replace hb := Lib.hid hb
      have hbl : ∀ q, (Value.slice A' k c').ownBlock = some q → w.heap.size ≤ q := fun q hq => (hown.out.lt q hq).1
      have hkm : k + 1 ≤ 100000 := by have := hm.out; omega
      replace hbl := Lib.hid hbl
      replace hkm := Lib.hid hkm
      go_wp2_with (first
        | (refine wpList_append_rowx rfl _ _ 92 rfl w.heap.size 9 i0 _ 1 16 Tryz.underlying92 hi0.out hz0.out hz1.out hz2.out rfl (by decide) (.slice A' k c') k _ rfl (own_keep hown.out (hx13.out.alloc (.cells #[.string f.nm] 9))) (fun _ => True) (some ⟨w3.heap.size, 0, none⟩) 1 1 [.string f.nm] rfl (Row.of_blk (Blk.new w3 9 _) trivial 0 (fun j u hu => (by simpa using hu))) rfl (fun h => (by cases h)) (fun u hu => (by simp at hu; rw [hu]; rfl)) (by have := hkm.out; unfold maxLen; omega) (by have := hkm.out; omega) (by have := (hx03.out.alloc (.cells #[.string f.nm] 9)).size; omega) ?_
           intro v5 w5 ho5 hg5 _
           have hx5 : Ext [] w w5 := (hx03.out.alloc _).grown hg5 (fun q hq => .inr (hbl.out q hq))
           obtain ⟨A5, c5, rfl, _⟩ := own_form ho5
           replace ho5 := Lib.hid ho5
           replace hx5 := Lib.hid hx5
           clear hg5)
        | (refine wpList_store_whole rfl 180 _ _ rfl _ rfl _ rfl _ _ (Blk.new _ _ _) (by kernel_rfl) rfl (by kernel_rfl) ?_; intro w3 hb3 hx3; have q3 := hb3.cell 0; simp only [List.getElem?_toArray, List.getElem?_cons_zero] at q3; have hx03 : Ext [] w w3 := (hx.out.alloc _).trans hx3 (fun kk hkk hl => (by simp at hkk; omega)); have hx13 : Ext [] wr w3 := ((Ext.refl [] wr).alloc _).trans hx3 (fun kk hkk hl => (by simp at hkk; omega)); replace hb3 := Lib.hid hb3; replace hx03 := Lib.hid hx03; replace hx13 := Lib.hid hx13; clear hx3))
      go_roundw
      case rel =>
        refine ⟨k + 1, by omega, by go_num, A5, c5, rfl, Lib.hid ?_, hx5⟩
        have := ho5.out
        rw [List.take_add_one, hget.out, List.map_append]
        exact this
      case measure => simp [intOf]; omega
    · obtain rfl : k = n := by omega
      go_wp2
      go_ret
      refine ⟨_, rfl, ?_, hx.out⟩
      have := hown.out
      have hnn := hn.out
      rw [List.take_of_length_le (by omega)] at this
      rw [hnn]
      exact this
end Go.Proofs.YtpjekppljaekoaaGreatDoor
namespace Go.Proofs.YtpjekppljaekoaaGreatDoor
open Go Go.RowKit

theorem Tryz.info3 : (Tryz.prog.info? 3).map (fun i => (i.zero, i.size, i.bytes)) = some (some (.int .i64 0), 1, 8) := by kernel_rfl

def pre : ByteArray := ⟨#[99, 107, 46]⟩
def digitsOf (nm : ByteArray) : ByteArray := ⟨(Lib.trimPrefix nm.data.toList pre.data.toList).toArray⟩
/-- The step whose file has a name; none: it is no checkpoint's. -/
def stepOf (nm : ByteArray) : Option Int :=
  if Lib.hasPrefix nm.data.toList pre.data.toList = true then
    match Lib.atoiAll (digitsOf nm).data.toList with
    | .ok n => if 0 ≤ n ∧ n ≤ 1073741824 ∧ nameOf n = nm then some n else none
    | _ => none
  else none
def DiskS.all (s : DiskS) : List Int := (s.files.filterMap fun f => stepOf f.nm).mergeSort fun x y => decide (x ≤ y)

theorem digits_size (nm : ByteArray) : (digitsOf nm).size ≤ nm.size := by
  show (Lib.trimPrefix nm.data.toList pre.data.toList).toArray.size ≤ nm.data.size
  rw [List.size_toArray]
  unfold Lib.trimPrefix
  have h : nm.data.size = nm.data.toList.length := by simp
  rw [h]
  split
  · rw [List.length_drop]; omega
  · exact Nat.le_refl _

theorem cut_prefix_calls (nm : ByteArray) (w : World) : Calls Tryz.prog 186 #[.string nm, .string ⟨#[99, 107, 46]⟩] w fun e w' => e = .returned (.tuple #[.string (digitsOf nm), .bool (Lib.hasPrefix nm.data.toList pre.data.toList)]) ∧ w' = w := Tryz.strings_CutPrefix nm pre w
theorem atoi_ok (s : ByteArray) (n : Int) (w : World) (hs : s.size ≤ 1000000) (hL : Lai w) (h : Lib.atoiAll s.data.toList = .ok n) : Calls Tryz.prog 187 #[.string s] w fun e w' => e = .returned (.tuple #[.int .i64 n, .nilIface]) ∧ Ext [] w w' := by
  refine (atoi_calls s w hs hL).mono ?_
  rintro e w' ⟨⟨v, ev, rfl, hc⟩, hx⟩
  rcases hc with ⟨n', h1, rfl, rfl⟩ | ⟨h1, _⟩
  · rw [h] at h1; cases h1; exact ⟨rfl, hx⟩
  · exact absurd h (h1 n)
theorem atoi_bad (s : ByteArray) (w : World) (hs : s.size ≤ 1000000) (hL : Lai w) (h : ∀ n, Lib.atoiAll s.data.toList ≠ .ok n) : Calls Tryz.prog 187 #[.string s] w fun e w' => (∃ v tp p, e = .returned (.tuple #[.int .i64 v, .iface tp p])) ∧ Ext [] w w' := by
  refine (atoi_calls s w hs hL).mono ?_
  rintro e w' ⟨⟨v, ev, rfl, hc⟩, hx⟩
  rcases hc with ⟨n', h1, _⟩ | ⟨_, tp, p, rfl⟩
  · exact absurd h1 (h n')
  · exact ⟨⟨v, tp, p, rfl⟩, hx⟩

/-- The steps of the first k files. -/
def stepsTo (fs : List FileS) (k : Nat) : List Int := (fs.take k).filterMap fun f => stepOf f.nm
theorem stepsTo_none {fs : List FileS} {k : Nat} {f : FileS} (hf : fs[k]? = some f) (h : stepOf f.nm = none) : stepsTo fs (k + 1) = stepsTo fs k := by
  unfold stepsTo
  rw [List.take_add_one, hf, List.filterMap_append]
  simp [h]
theorem stepsTo_some {fs : List FileS} {k : Nat} {f : FileS} {n : Int} (hf : fs[k]? = some f) (h : stepOf f.nm = some n) : stepsTo fs (k + 1) = stepsTo fs k ++ [n] := by
  unfold stepsTo
  rw [List.take_add_one, hf, List.filterMap_append]
  simp [h]
theorem stepsTo_le (fs : List FileS) (k : Nat) : (stepsTo fs k).length ≤ k := by
  unfold stepsTo
  exact Nat.le_trans (List.length_filterMap_le _ _) (by rw [List.length_take]; omega)
end Go.Proofs.YtpjekppljaekoaaGreatDoor
namespace Go.Proofs.YtpjekppljaekoaaGreatDoor
open Go Go.RowKit Go.Sort

set_option maxHeartbeats 400000 in
theorem sort_calls (base : Nat) (A : Option Addr) (c : Nat) (zs : List Int) (w : World) (ho : w.ownsRow base 3 1 (.slice A zs.length c) zs.length (zs.map fun n => .int .i64 n)) (hsz : zs.length ≤ 1000000) :
    Calls Tryz.prog 188 #[.slice A zs.length c] w fun e w' => e = .returned (.tuple #[]) ∧ w'.ownsRow base 3 1 (.slice A zs.length c) zs.length ((zs.mergeSort fun x y => decide (x ≤ y)).map fun n => .int .i64 n) ∧ Ext (Value.slice A zs.length c).ownBlock.toList w w' := by
  by_cases h0 : zs.length = 0
  · have hz : zs = [] := List.eq_nil_of_length_eq_zero h0
    subst hz
    refine (Tryz.slices_Sort_int_none A c w).mono ?_
    rintro e w' ⟨rfl, rfl⟩
    exact ⟨rfl, by simpa using ho, Ext.refl _ _⟩
  · rcases ho.2 with ⟨_, h⟩ | ⟨g, cap, cur, e, hb, hh, hnc, hcm, hcs, ht⟩
    · exact absurd h h0
    · injection e with e1 _ e3
      subst e1; subst e3
      have hH : Holds (Value.int .i64) w g 0 zs.toArray := by
        intro j hj
        have hj' : j < zs.length := by simpa using hj
        refine ⟨?_, frozen_of_row w g (0 + j) cur 3 hh⟩
        have h1 := ho.cells (g := g) rfl j (.int .i64 zs[j]) (by rw [List.getElem?_map, List.getElem?_eq_getElem hj']; rfl)
        rw [Addr.add_lit] at h1
        rw [h1]
        congr 2
        rw [getElem!_pos _ j (by simpa using hj')]
        simp
      refine (Tryz.slices_Sort_int g 0 c zs w hH (lt_of_heap hh) (by omega)).mono ?_
      rintro e w' ⟨rfl, n, os, rfl⟩
      refine ⟨rfl, ownsRow_sortedI (List.length_mergeSort zs) hb hh hnc hcm hcs, (Ext.refl _ w).grown (grownBy_sortedI _) (fun k hk => .inl ?_)⟩
      cases hk
      simp [Value.ownBlock]
end Go.Proofs.YtpjekppljaekoaaGreatDoor
namespace Go.Proofs.YtpjekppljaekoaaGreatDoor
open Go Go.RowKit

def intV (n : Int) : Value := .int .i64 n

def AllRel (fs : List FileS) (w1 : World) (k : Nat) (A : Option Addr) (m c : Nat) (wr : World) : Prop :=
  wr.ownsRow w1.heap.size 3 1 (.slice A m c) m ((stepsTo fs k).map intV) ∧ Ext [] w1 wr

set_option maxRecDepth 100000 in
set_option maxHeartbeats 4000000 in
theorem all_calls (gs d : Nat) (sv : Value) (s : DiskS) (w : World) (h : DiskAt w d sv s) (hst : Blk w gs 193 #[.pointer (some ⟨d, 0, none⟩)]) (hL : Lai w) (hnm : ∀ f ∈ s.files, f.nm.size ≤ 1000000) :
    Calls Tryz.prog 110 #[.pointer (some ⟨gs, 0, none⟩)] w fun e w' => ∃ A c, e = .returned (.slice A s.all.length c) ∧ w'.ownsRow w.heap.size 3 1 (.slice A s.all.length c) s.all.length (s.all.map intV) ∧ Ext [] w w' := by
  have cs := hst.cell 0
  simp only [List.getElem?_toArray, List.getElem?_cons_zero] at cs
  have hN := names_calls d sv s w h
  have hm := h.many
  obtain ⟨i0, hi0, hz0, hz1, hz2⟩ := info_parts Tryz.info3
  clear h hst
  generalize hn : s.files.length = n at *
  unfold NamesPost at hN
  rw [hn] at hN
  have hm' : (n : Int) ≤ 100000 := by omega
  have hn0 : (0 : Int) ≤ n := by omega
  replace hn := Lib.hid hn
  replace hm := Lib.hid hm
  replace hz0 := Lib.hid hz0
  replace hz1 := Lib.hid hz1
  replace hz2 := Lib.hid hz2
  replace hi0 := Lib.hid hi0
  replace hL := Lib.hid hL
  replace hnm := Lib.hid hnm
  go_enter Tryz.func110, Tryz.ntmps110
  go_wp2_with (go_at_call 60; refine hN.mono ?_; rintro e w1 ⟨v1, rfl, hown1, hx1⟩; obtain ⟨A1, c1, rfl, hnc1, _⟩ := own_form hown1; replace hown1 := Lib.hid hown1; replace hx1 := Lib.hid hx1)
  have hnc1' : (n : Int) ≤ c1 := by omega
  go_loopw [3, 16] (fun v i wr => ∃ k : Nat, k ≤ n ∧ i = .int .i64 k ∧ ∃ A m c, v = .slice A m c ∧ Hid (AllRel s.files w1 k A m c wr)) (fun _ i _ => n - (intOf i).toNat)
  case atStart => exact ⟨0, by omega, rfl, none, 0, 0, rfl, Lib.hid ⟨World.ownsRow_nil _ _ _ _, Ext.refl _ _⟩⟩
  case round =>
    obtain ⟨k, hk, rfl, A, m, c, rfl, hr⟩ := hrel
    by_cases hkn : k < n
    · obtain ⟨f, hget⟩ : ∃ f, s.files[k]? = some f := ⟨_, List.getElem?_eq_getElem (by have := hn.out; omega)⟩
      have hsz : f.nm.size ≤ 1000000 := hnm.out f (List.mem_of_getElem? hget)
      obtain ⟨g1, rfl, q0⟩ : ∃ g1, A1 = some ⟨g1, 0, none⟩ ∧ w1.cell? ⟨g1, k, none⟩ = some (.string f.nm) := by
        have hn' := hn.out
        rcases hown1.out.2 with ⟨e, h0⟩ | ⟨g, cap, cur, e, _⟩
        · omega
        · injection e with e _ _
          subst e
          refine ⟨g, rfl, ?_⟩
          have := hown1.out.cells (g := g) rfl k (.string f.nm) (by rw [List.getElem?_map, hget]; rfl)
          rwa [Addr.add_lit, Nat.zero_add] at this
      have d0 := hr.out.2.cell_some q0
      have hkI : (k : Int) < n := by omega
      have hk0 : (0 : Int) ≤ k := by omega
      have hCut := fun w => cut_prefix_calls f.nm w
      have hLr : Lai wr := (hL.out.keep hx1.out).keep hr.out.2
      have hds := digits_size f.nm
      cases hp : Lib.hasPrefix f.nm.data.toList pre.data.toList with
      | false =>
        have hso : stepOf f.nm = none := by unfold stepOf; rw [hp]; rfl
        simp only [hp] at hCut
        have hAt := atoi_calls (digitsOf f.nm) wr (by omega) hLr
        replace hget := Lib.hid hget
        replace hso := Lib.hid hso
        replace hLr := Lib.hid hLr
        replace hp := Lib.hid hp
        go_wp2_with (first
          | (go_at_call 186; refine (hCut _).mono ?_; rintro e w2 ⟨rfl, rfl⟩)
          | (go_at_call 187; refine hAt.mono ?_; rintro e w2 ⟨⟨v, ev, rfl, _⟩, hx2⟩; replace hx2 := Lib.hid hx2))
        go_roundw
        case rel => exact ⟨k + 1, by omega, by go_num, A, m, c, rfl, Lib.hid ⟨by rw [stepsTo_none hget.out hso.out]; exact own_keep hr.out.1 hx2.out, hr.out.2.trans' hx2.out⟩⟩
        case measure => simp [intOf]; omega
      | true =>
        simp only [hp] at hCut
        by_cases hok : ∃ q, Lib.atoiAll (digitsOf f.nm).data.toList = .ok q
        · obtain ⟨q, hq⟩ := hok
          have hAt := atoi_ok (digitsOf f.nm) q wr (by omega) hLr hq
          by_cases hq0 : 0 ≤ q ∧ q ≤ 1073741824 ∧ nameOf q = f.nm
          · have hso : stepOf f.nm = some q := by
              unfold stepOf
              rw [hp]
              simp only [if_true, hq]
              rw [if_pos hq0]
            obtain ⟨hqa, hqb, hqn⟩ := hq0
            have hqe : ((nameOf q).toList == f.nm.toList) = true := by rw [hqn]; exact beq_self_eq_true _
            have hmk : m ≤ 100000 := by
              have h1 := hr.out.1.1
              have h2 := stepsTo_le s.files k
              have h3 := hm.out
              simp at h1
              omega
            replace hqn := Lib.hid hqn
            replace hmk := Lib.hid hmk
            replace hget := Lib.hid hget
            replace hso := Lib.hid hso
            replace hLr := Lib.hid hLr
            replace hp := Lib.hid hp
            replace hq := Lib.hid hq
            go_wp2_with (first
              | (refine wpList_append_rowx rfl _ _ 72 rfl w1.heap.size 3 i0 _ 1 8 Tryz.underlying72 hi0.out hz0.out hz1.out hz2.out rfl (by decide) (.slice A m c) m _ rfl (own_keep hr.out.1 ((hx2.out.trans' hx3.out).alloc (.cells #[.int .i64 q] 3))) (fun _ => True) (some ⟨w3.heap.size, 0, none⟩) 1 1 [.int .i64 q] rfl (Row.of_blk (Blk.new w3 3 _) trivial 0 (fun j u hu => (by simpa using hu))) rfl (fun h => (by cases h)) (fun u hu => (by simp at hu; rw [hu]; rfl)) (by have := hmk.out; unfold maxLen; omega) (by have := hmk.out; omega) (by have := ((hr.out.2.trans' (hx2.out.trans' hx3.out)).alloc (.cells #[.int .i64 q] 3)).size; omega) ?_
                 intro v5 w5 ho5 hg5 _
                 have hx5 : Ext [] w1 w5 := ((hr.out.2.trans' (hx2.out.trans' hx3.out)).alloc _).grown hg5 (fun q hq => .inr (hr.out.1.lt q hq).1)
                 obtain ⟨A5, c5, rfl, _⟩ := own_form ho5
                 replace ho5 := Lib.hid ho5
                 replace hx5 := Lib.hid hx5
                 clear hg5)
              | (go_at_call 186; refine (hCut _).mono ?_; rintro e w2 ⟨rfl, rfl⟩)
              | (go_at_call 187; refine hAt.mono ?_; rintro e w2 ⟨rfl, hx2⟩; have hNm := name_calls q w2 (by omega) (by omega) (hLr.out.keep hx2); replace hx2 := Lib.hid hx2; replace hNm := Lib.hid hNm)
              | (go_at_call 109; refine hNm.out.mono ?_; rintro e w3 ⟨rfl, hx3⟩; replace hx3 := Lib.hid hx3))
            go_roundw
            case rel =>
              refine ⟨k + 1, by omega, by go_num, A5, m + 1, c5, rfl, Lib.hid ⟨?_, hx5.out⟩⟩
              rw [stepsTo_some hget.out hso.out, List.map_append]
              exact ho5.out
            case measure => simp [intOf]; omega
          · have hso : stepOf f.nm = none := by
              unfold stepOf
              rw [hp]
              simp only [if_true, hq]
              rw [if_neg hq0]
            by_cases hqa : 0 ≤ q
            · by_cases hqb : q ≤ 1073741824
              · have hqe : ((nameOf q).toList == f.nm.toList) = false := by
                  have : nameOf q ≠ f.nm := fun e => hq0 ⟨hqa, hqb, e⟩
                  rw [beq_eq_false_iff_ne]
                  intro e
                  rw [ByteArray.toList_eq, ByteArray.toList_eq] at e
                  exact this (ByteArray.ext (Array.toList_inj.1 e))
                replace hq0 := Lib.hid hq0
                replace hget := Lib.hid hget
                replace hso := Lib.hid hso
                replace hLr := Lib.hid hLr
                replace hp := Lib.hid hp
                replace hq := Lib.hid hq
                go_wp2_with (first
                  | (go_at_call 186; refine (hCut _).mono ?_; rintro e w2 ⟨rfl, rfl⟩)
                  | (go_at_call 187; refine hAt.mono ?_; rintro e w2 ⟨rfl, hx2⟩; have hNm := name_calls q w2 (by omega) (by omega) (hLr.out.keep hx2); replace hx2 := Lib.hid hx2; replace hNm := Lib.hid hNm)
                  | (go_at_call 109; refine hNm.out.mono ?_; rintro e w3 ⟨rfl, hx3⟩; replace hx3 := Lib.hid hx3))
                go_roundw
                case rel => exact ⟨k + 1, by omega, by go_num, A, m, c, rfl, Lib.hid ⟨by rw [stepsTo_none hget.out hso.out]; exact own_keep hr.out.1 (hx2.out.trans' hx3.out), hr.out.2.trans' (hx2.out.trans' hx3.out)⟩⟩
                case measure => simp [intOf]; omega
              · have hqc : 1073741824 < q := by omega
                clear hqb
                replace hq0 := Lib.hid hq0
                replace hget := Lib.hid hget
                replace hso := Lib.hid hso
                replace hLr := Lib.hid hLr
                replace hp := Lib.hid hp
                replace hq := Lib.hid hq
                go_wp2_with (first
                  | (go_at_call 186; refine (hCut _).mono ?_; rintro e w2 ⟨rfl, rfl⟩)
                  | (go_at_call 187; refine hAt.mono ?_; rintro e w2 ⟨rfl, hx2⟩; replace hx2 := Lib.hid hx2))
                go_roundw
                case rel => exact ⟨k + 1, by omega, by go_num, A, m, c, rfl, Lib.hid ⟨by rw [stepsTo_none hget.out hso.out]; exact own_keep hr.out.1 hx2.out, hr.out.2.trans' hx2.out⟩⟩
                case measure => simp [intOf]; omega
            · have hqc : q < 0 := by omega
              clear hqa
              replace hq0 := Lib.hid hq0
              replace hget := Lib.hid hget
              replace hso := Lib.hid hso
              replace hLr := Lib.hid hLr
              replace hp := Lib.hid hp
              replace hq := Lib.hid hq
              go_wp2_with (first
                | (go_at_call 186; refine (hCut _).mono ?_; rintro e w2 ⟨rfl, rfl⟩)
                | (go_at_call 187; refine hAt.mono ?_; rintro e w2 ⟨rfl, hx2⟩; replace hx2 := Lib.hid hx2))
              go_roundw
              case rel => exact ⟨k + 1, by omega, by go_num, A, m, c, rfl, Lib.hid ⟨by rw [stepsTo_none hget.out hso.out]; exact own_keep hr.out.1 hx2.out, hr.out.2.trans' hx2.out⟩⟩
              case measure => simp [intOf]; omega
        · have hso : stepOf f.nm = none := by
            unfold stepOf
            rw [hp]
            simp only [if_true]
            cases hq : Lib.atoiAll (digitsOf f.nm).data.toList with
            | ok q => exact absurd ⟨q, hq⟩ hok
            | _ => rfl
          have hAt := atoi_bad (digitsOf f.nm) wr (by omega) hLr (fun q hq => hok ⟨q, hq⟩)
          replace hok := Lib.hid hok
          replace hget := Lib.hid hget
          replace hso := Lib.hid hso
          replace hLr := Lib.hid hLr
          replace hp := Lib.hid hp
          go_wp2_with (first
            | (go_at_call 186; refine (hCut _).mono ?_; rintro e w2 ⟨rfl, rfl⟩)
            | (go_at_call 187; refine hAt.mono ?_; rintro e w2 ⟨⟨v, tp, pp, rfl⟩, hx2⟩; replace hx2 := Lib.hid hx2))
          go_roundw
          case rel => exact ⟨k + 1, by omega, by go_num, A, m, c, rfl, Lib.hid ⟨by rw [stepsTo_none hget.out hso.out]; exact own_keep hr.out.1 hx2.out, hr.out.2.trans' hx2.out⟩⟩
          case measure => simp [intOf]; omega
    · obtain rfl : k = n := by omega
      have ho := hr.out.1
      have hml : m = (stepsTo s.files k).length := by have := ho.1; simpa using this.symm
      subst hml
      have hall : s.all = (stepsTo s.files k).mergeSort fun x y => decide (x ≤ y) := by
        have := hn.out
        unfold DiskS.all stepsTo
        rw [List.take_of_length_le (by omega)]
      have hlen : s.all.length = (stepsTo s.files k).length := by rw [hall, List.length_mergeSort]
      have hS := sort_calls w1.heap.size A c (stepsTo s.files k) wr ho (by have := stepsTo_le s.files k; have := hm.out; omega)
      have hbl : ∀ q, (Value.slice A (stepsTo s.files k).length c).ownBlock = some q → w1.heap.size ≤ q := fun q hq => (ho.lt q hq).1
      rw [← hall, ← hlen] at hS
      have hr2 := hr.out.2
      rw [← hlen] at hbl
      replace hbl := Lib.hid hbl
      replace hall := Lib.hid hall
      replace hr2 := Lib.hid hr2
      clear hr ho
      rw [← hlen]
      replace hlen := Lib.hid hlen
      go_wp2_with (go_at_call 188; refine hS.mono ?_; rintro e w5 ⟨rfl, ho5, hx5⟩; replace ho5 := Lib.hid ho5; replace hx5 := Lib.hid hx5)
      go_ret
      have h1s := hx1.out.size
      refine ⟨A, c, rfl, ⟨ho5.out.1, ?_⟩, hx1.out.trans' (hr2.out.trans hx5.out fun q hq hl => ?_)⟩
      · rcases ho5.out.2 with h | ⟨g, cap, cur, e, hb, r⟩
        · exact .inl h
        · exact .inr ⟨g, cap, cur, e, by omega, r⟩
      · have := hbl.out q (by simpa using hq); omega
end Go.Proofs.YtpjekppljaekoaaGreatDoor

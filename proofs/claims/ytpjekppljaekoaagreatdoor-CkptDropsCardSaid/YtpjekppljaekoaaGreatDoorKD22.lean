/- The statement CkptDrops: of any steps that were written those below one are dropped, all others stay as they were, for every input, the listed variables tied to the program's text. -/
import Derived.Test.YtpjekppljaekoaaGreatDoorKD14
import Derived.Test.YtpjekppljaekoaaGreatDoorKD15
import Derived.Test.YtpjekppljaekoaaGreatDoorKD16
import Derived.Test.YtpjekppljaekoaaGreatDoorKD17
import Derived.Test.YtpjekppljaekoaaGreatDoorKD18
import Derived.Test.YtpjekppljaekoaaGreatDoorKD19
import Derived.Test.YtpjekppljaekoaaGreatDoorKD20
import Derived.Test.YtpjekppljaekoaaGreatDoorKD21
import Derived.Test.YtpjekppljaekoaaGreatDoorCards
import Derived.Test.YtpjekppljaekoaaGreatDoorTie
import Derived.LaidMore
import Derived.JoinedOf
import Derived.SevenTiedAt
namespace Go.Proofs.YtpjekppljaekoaaGreatDoor
open Go Go.RowKit Go.ChangeShapes Go.WideShapes Go.ChangeAt

set_option maxRecDepth 100000 in
theorem drops_contract (H : Type) (enc : TypeId × Value → H) (W : World) (base : Nat) (args : Array Value) (ds gs : List (DataW H)) (before : List MemPlace)
    (hval : ∀ (j : Nat) t v, Tryz.f6.params[j]? = some t → args[j]? = some v → Value.okWide Tryz.prog W .any base t v)
    (hW : DataW.Whole enc Tryz.prog Tryz.f6.params.toList Rows.ckptDropsSpec.vars false W args.toList ds gs before) (hL : laidMetH Tryz.prog Rows.ckptDropsRow.laid W) :
    Calls Tryz.prog 6 args W fun e W' => ∃ v, e = .returned v ∧ Rows.ckptDropsSpec.post enc Tryz.prog Tryz.f6 false true false false W args v W' := by
  have hW' := hW
  obtain ⟨p, q, hA0, hV, rfl, hfz, hnd⟩ := hW
  have hA : DataW.TrodAll enc Tryz.prog W 0 (fun _ => true) true Tryz.f6.params.toList args.toList ds p := hA0
  rw [Tryz.params6] at hA hval
  obtain ⟨v0, vs0, d0, ds0, p0, q0, hargs, rfl, rfl, h0, r0⟩ := trodAll_cons hA
  obtain ⟨v1, vs1, d1, ds1, p1, q1, hargs1, rfl, rfl, h1, r1⟩ := trodAll_cons r0
  obtain ⟨v2, vs2, d2, ds2, p2, q2, hargs2, rfl, rfl, h2, r2⟩ := trodAll_cons r1
  obtain ⟨hargs3, rfl, rfl⟩ := trodAll_nil r2
  subst hargs1; subst hargs2; subst hargs3
  obtain rfl : args = #[v0, v1, v2] := by cases args; simp_all
  obtain ⟨rfl, rfl⟩ := trodVars_none hV
  obtain ⟨sl, hb0⟩ := open_bs (hval 0 25 v0 rfl rfl) h0
  obtain ⟨ls, hb1⟩ := open_bss (hval 1 101 v1 rfl rfl) h1
  obtain ⟨below, rfl, _⟩ := open_int Tryz.underlying3 (hval 2 3 v2 rfl rfl) h2
  refine (drops_law v0 v1 sl ls below W (lai_of hL) hb0 hb1).mono fun e W' ⟨he, hx⟩ => ⟨_, he, ?_⟩
  exact law_post Tryz.laidOut Tryz.underlying4 (by kernel_rfl) rfl (by rw [Tryz.params6]; decide +kernel) rfl hW' hx.toBelow

theorem door_met (os : Os) (args : Array Value) : laidMetH Tryz.prog laid5 ((World.doorLaid Tryz.prog 67 os).forCall (fun _ _ => 0) ⟨#[], args, []⟩).memory :=
  laidMetH_of_parts3 (fuel := 8) (laidMet_of_run' 8 (by kernel_rfl) (by kernel_rfl)) (by kernel_rfl) (by kernel_rfl)

set_option maxRecDepth 100000 in
theorem drops_lifted (os : Os) (started : os.Started) (H : Type) (enc : TypeId × Value → H) :
    ReturnsInHanded {} Tryz.checked os 6 .any (fun w args => (Rows.ckptDropsSpec.pre enc Tryz.prog Tryz.f6 [] false w args ∧ laidMetH Tryz.prog Rows.ckptDropsRow.laid w) ∧ sizedMet enc Tryz.prog Tryz.f6 (OpenSpec.ofChange Rows.ckptDropsSpec) false w args)
      (Rows.ckptDropsSpec.post enc Tryz.prog Tryz.f6 false true false false) := by
  refine returnsInHanded_of_change_and (C := Tryz.checked) (X := fun w _ => laidMetH Tryz.prog Rows.ckptDropsRow.laid w) (fun _ _ _ hh h => h.of_heap hh) Tryz.own started (by kernel_rfl) Tryz.func6
    (ChangeSpec.witness_shaped (enc := enc) (C := Tryz.checked) (os := os) (X := fun w _ => laidMetH Tryz.prog Rows.ckptDropsRow.laid w) false (World.doorLaid Tryz.prog 67 os) #[.slice none 0 0, .slice none 0 0, .int .i64 0] 8 rfl (World.shaped_of_RefB (by kernel_rfl) (by kernel_rfl)) (by kernel_rfl) (by kernel_rfl) (by kernel_rfl) (door_met os _)) ?_
  intro W base args ds gs before hval hW _ _ hL _
  exact drops_contract H enc W base args ds gs before hval hW hL

theorem drops_facts : joinedFacts Tryz.prog 6 Tryz.f6 Rows.ckptDropsSpec Rows.ckptDropsRow = true := by
  unfold joinedFacts
  rw [drops_inPlace, drops_unfollowed, drops_recurses, drops_varsNamed]
  kernel_rfl

theorem ckptDrops_said : Rows.CkptDropsSaid :=
  OpenClaim.holds_of_wide 6 Tryz.f6 rfl rfl rfl rfl rfl rfl rfl ⟨rfl, rfl, rfl, rfl, rfl⟩ rfl rfl rfl rfl rfl drops_named Tryz.func6 drops_facts
    (of_decide_eq_true (by kernel_rfl)) (by unfold Func.isWrapper; first | (rw [if_pos (by decide +kernel)]; kernel_rfl) | (rw [if_neg (by decide +kernel)]; exact ⟨rfl, rfl⟩))
    (fun os started H enc _ => drops_lifted os started H enc)

theorem ckptDrops_holds : Rows.CkptDropsCardSaid :=
  Claim7.holds_tied_plain_at .later [] _ _ _ _ ckptDrops_said (fun _ h => by cases h) drops_wf (fun _ h => by cases h) ckptDrops_row_tie rfl ⟨rfl, rfl⟩ (by kernel_rfl) rfl
    (fun f fn hf hfn => by
      obtain rfl : f = 6 := Option.some.inj (drops_named.symm.trans hf) |>.symm
      obtain rfl : fn = Tryz.f6 := (Option.some.inj (Tryz.func6.symm.trans hfn)).symm
      exact ⟨looks_on, fun j t ht => by
        rw [Tryz.params6] at ht
        have hm : t ∈ [25, 101, 3] := by simpa using Array.mem_of_getElem? ht
        have hall : ([25, 101, 3].all fun u => !Tryz.prog.wantsStandIn u) = true := by kernel_rfl
        exact (show Tryz.prog.wantsStandIn t = false by simpa using List.all_eq_true.1 hall t hm)⟩)
    drops_goes
#print axioms ckptDrops_holds
end Go.Proofs.YtpjekppljaekoaaGreatDoor

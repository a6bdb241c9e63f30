/- The statement CkptAgain: whatever checkpoints are written, what is read of each is what was written last, also when opened again, and behind Drop just those from a step on are there, for every input, the listed variables tied to the program's text. -/
import Derived.Test.YtpjekppljaekoaaGreatDoorKA14
import Derived.Test.YtpjekppljaekoaaGreatDoorKA16
import Derived.Test.YtpjekppljaekoaaGreatDoorKA17
import Derived.Test.YtpjekppljaekoaaGreatDoorKA18
import Derived.Test.YtpjekppljaekoaaGreatDoorKA19
import Derived.Test.YtpjekppljaekoaaGreatDoorKA20
import Derived.Test.YtpjekppljaekoaaGreatDoorKA21
import Derived.Test.YtpjekppljaekoaaGreatDoorKA22
import Derived.Test.YtpjekppljaekoaaGreatDoorKA23
import Derived.Test.YtpjekppljaekoaaGreatDoorCards
import Derived.Test.YtpjekppljaekoaaGreatDoorTie
import Derived.LaidMore
import Derived.JoinedOf
import Derived.SevenTiedAt
namespace Go.Proofs.YtpjekppljaekoaaGreatDoor
open Go Go.RowKit Go.ChangeShapes Go.WideShapes Go.ChangeAt

set_option maxRecDepth 100000 in
theorem again_contract (H : Type) (enc : TypeId × Value → H) (W : World) (base : Nat) (args : Array Value) (ds gs : List (DataW H)) (before : List MemPlace)
    (hval : ∀ (j : Nat) t v, Tryz.f5.params[j]? = some t → args[j]? = some v → Value.okWide Tryz.prog W .any base t v)
    (hW : DataW.Whole enc Tryz.prog Tryz.f5.params.toList Rows.ckptAgainSpec.vars false W args.toList ds gs before) (hL : laidMetH Tryz.prog Rows.ckptAgainRow.laid W) :
    Calls Tryz.prog 5 args W fun e W' => ∃ v, e = .returned v ∧ Rows.ckptAgainSpec.post enc Tryz.prog Tryz.f5 false true false false W args v W' := by
  have hW' := hW
  obtain ⟨p, q, hA0, hV, rfl, hfz, hnd⟩ := hW
  have hA : DataW.TrodAll enc Tryz.prog W 0 (fun _ => true) true Tryz.f5.params.toList args.toList ds p := hA0
  rw [Tryz.params5] at hA hval
  obtain ⟨v0, vs0, d0, ds0, p0, q0, hargs, rfl, rfl, h0, r0⟩ := trodAll_cons hA
  obtain ⟨v1, vs1, d1, ds1, p1, q1, hargs1, rfl, rfl, h1, r1⟩ := trodAll_cons r0
  obtain ⟨hargs2, rfl, rfl⟩ := trodAll_nil r1
  subst hargs1; subst hargs2
  obtain rfl : args = #[v0, v1] := by cases args; simp_all
  obtain ⟨rfl, rfl⟩ := trodVars_none hV
  obtain ⟨xs, hxs⟩ := open_callrow (hval 0 87 v0 rfl rfl) h0
  obtain ⟨bl, rfl, _, _, hwb⟩ := open_int Tryz.underlying5 (hval 1 5 v1 rfl rfl) h1
  simp only [Lit.wf, Bool.and_eq_true, decide_eq_true_eq] at hwb
  refine (again_law v0 xs bl W (lai_of hL) hxs hwb.1 hwb.2).mono fun e W' ⟨he, hx⟩ => ⟨_, he, ?_⟩
  exact law_post Tryz.laidOut Tryz.underlying4 (by kernel_rfl) rfl (by rw [Tryz.params5]; decide +kernel) rfl hW' hx.toBelow

set_option maxRecDepth 100000 in
theorem again_lifted (os : Os) (started : os.Started) (H : Type) (enc : TypeId × Value → H) :
    ReturnsInHanded {} Tryz.checked os 5 .any (fun w args => (Rows.ckptAgainSpec.pre enc Tryz.prog Tryz.f5 [] false w args ∧ laidMetH Tryz.prog Rows.ckptAgainRow.laid w) ∧ sizedMet enc Tryz.prog Tryz.f5 (OpenSpec.ofChange Rows.ckptAgainSpec) false w args)
      (Rows.ckptAgainSpec.post enc Tryz.prog Tryz.f5 false true false false) := by
  refine returnsInHanded_of_change_and (C := Tryz.checked) (X := fun w _ => laidMetH Tryz.prog Rows.ckptAgainRow.laid w) (fun _ _ _ hh h => h.of_heap hh) Tryz.own started (by kernel_rfl) Tryz.func5
    (ChangeSpec.witness_shaped (enc := enc) (C := Tryz.checked) (os := os) (X := fun w _ => laidMetH Tryz.prog Rows.ckptAgainRow.laid w) false (World.doorLaid Tryz.prog 67 os) #[.slice none 0 0, .int .u8 0] 8 rfl (World.shaped_of_RefB (by kernel_rfl) (by kernel_rfl)) (by kernel_rfl) (by kernel_rfl) (by kernel_rfl) (door_met os _)) ?_
  intro W base args ds gs before hval hW _ _ hL _
  exact again_contract H enc W base args ds gs before hval hW hL

theorem again_facts : joinedFacts Tryz.prog 5 Tryz.f5 Rows.ckptAgainSpec Rows.ckptAgainRow = true := by
  unfold joinedFacts
  rw [again_inPlace, again_unfollowed, again_recurses, again_varsNamed]
  kernel_rfl

theorem ckptAgain_said : Rows.CkptAgainSaid :=
  OpenClaim.holds_of_wide 5 Tryz.f5 rfl rfl rfl rfl rfl rfl rfl ⟨rfl, rfl, rfl, rfl, rfl⟩ rfl rfl rfl rfl rfl again_named Tryz.func5 again_facts
    (of_decide_eq_true (by kernel_rfl)) (by unfold Func.isWrapper; first | (rw [if_pos (by decide +kernel)]; kernel_rfl) | (rw [if_neg (by decide +kernel)]; exact ⟨rfl, rfl⟩))
    (fun os started H enc _ => again_lifted os started H enc)

theorem ckptAgain_holds : Rows.CkptAgainCardSaid :=
  Claim7.holds_tied_plain_at .later [] _ _ _ _ ckptAgain_said (fun _ h => by cases h) again_wf (fun _ h => by cases h) ckptAgain_row_tie rfl ⟨rfl, rfl⟩ (by kernel_rfl) rfl
    (fun f fn hf hfn => by
      obtain rfl : f = 5 := Option.some.inj (again_named.symm.trans hf) |>.symm
      obtain rfl : fn = Tryz.f5 := (Option.some.inj (Tryz.func5.symm.trans hfn)).symm
      exact ⟨looks_on, fun j t ht => by
        rw [Tryz.params5] at ht
        have hm : t ∈ [87, 5] := by simpa using Array.mem_of_getElem? ht
        have hall : ([87, 5].all fun u => !Tryz.prog.wantsStandIn u) = true := by kernel_rfl
        exact (show Tryz.prog.wantsStandIn t = false by simpa using List.all_eq_true.1 hall t hm)⟩)
    again_goes
#print axioms ckptAgain_holds
end Go.Proofs.YtpjekppljaekoaaGreatDoor

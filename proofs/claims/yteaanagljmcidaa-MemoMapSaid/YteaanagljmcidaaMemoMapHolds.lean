/- MemoMap answers true, whatever its input; the input reads as it did. No condition. -/
import Derived.Test.YteaanagljmcidaaMemoMap
import Derived.Test.YteaanagljmcidaaClose
import Derived.Test.YteaanagljmcidaaArgs4
namespace Go.Proofs.Yteaanagljmcidaa
open Go.ChangeShapes Go.WideShapes Go.ChangeAt Go.RowKit

set_option maxRecDepth 100000 in
theorem memoMap_lifted (os : Os) (started : os.Started) (H : Type) (enc : TypeId × Value → H) :
    ReturnsInHanded {} Try.checked os 16 .any (Rows.memoMapSpec.pre6 enc Try.prog Try.f16 Rows.memoMapRow.domain false) (Rows.memoMapSpec.post enc Try.prog Try.f16 false true false false) := by
  refine returnsInHanded_of_change (C := Try.checked) Try.own started (by kernel_rfl) Try.func16
    (ChangeSpec.witness6 (enc := enc) (C := Try.checked) false ⟨#[], #[.slice none 0 0], []⟩ 8 (by kernel_rfl) (by kernel_rfl) (by kernel_rfl) (by kernel_rfl)) ?_
  intro W base args ds gs before hval0 hW hcnd _
  have hval : ∀ (j : Nat) t v, Try.f16.params[j]? = some t → args[j]? = some v → Value.okWide Try.prog W .any base t v := hval0
  have hW' := hW
  have hlt := fun p hp => DataW.Whole.lt hW p hp
  obtain ⟨p, q, hA0, hV, rfl, hfz, hnd⟩ := hW
  have hA : DataW.TrodAll enc Try.prog W 0 (fun _ => true) true Try.f16.params.toList args.toList ds p := hA0
  rw [Try.params16] at hA hval
  obtain ⟨v0, d0, rfl, rfl, h0⟩ := trodAll_one hA
  obtain ⟨rfl, rfl⟩ := trodVars_none hV
  obtain ⟨l0, hl0⟩ := open_opsteps (hval 0 97 v0 rfl rfl) h0 (fun b off hp => hfz b off (by simp [hp]))
  clear hA0 hval0
  simp only [List.append_nil] at hW' hlt
  refine (memoMap_walk W l0 hl0).mono fun e W' ⟨he, hx⟩ => ?_
  subst he
  exact ⟨_, rfl, post_of_below (pa := p) (pv := []) hW' (fun _ _ _ => trodAll_mk1 (shut_bool Try.underlying4 true)) (fun sp hsp => trodAll_mk1 (stays r97 s97 h0 hx.below hlt sp hsp)) (fun _ _ => rfl) (by simp)
    hx.below (ok_one (by kernel_rfl) rfl (okWide_bool_mk Try.underlying4 true))⟩

set_option maxRecDepth 100000 in
set_option maxHeartbeats 2000000 in
theorem memoMap_facts : joinedFacts Try.prog 16 Try.f16 Rows.memoMapSpec Rows.memoMapRow = true := by
  unfold joinedFacts
  repeat' (with_reducible refine and_i ?_ ?_)
  all_goals first
    | with_reducible exact Try.laidOut
    | with_reducible exact Try.mapsRowed
    | with_reducible exact Try.mayEnter
    | (rw [Try.liftsFinal]; kernel_rfl)
    | (rw [Try.make]; kernel_rfl)
    | as_aux_lemma => kernel_rfl

theorem memoMap_holds : Rows.MemoMapSaid :=
  OpenClaim.holds_of_wide 16 Try.f16 rfl rfl rfl rfl rfl rfl rfl ⟨rfl, rfl, rfl, rfl, rfl⟩ rfl rfl rfl rfl rfl (by kernel_rfl) Try.func16 memoMap_facts
    (of_decide_eq_true (by kernel_rfl)) (by unfold Func.isWrapper; first | (rw [if_pos (by decide +kernel)]; kernel_rfl) | (rw [if_neg (by decide +kernel)]; exact ⟨rfl, rfl⟩))
    (fun os started H enc _ => memoMap_lifted os started H enc)
end Go.Proofs.Yteaanagljmcidaa

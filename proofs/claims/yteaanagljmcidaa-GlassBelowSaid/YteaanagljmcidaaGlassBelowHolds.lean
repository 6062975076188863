/- GlassBelow answers true, whatever its input; the input reads as it did. No condition. -/
import Derived.Test.YteaanagljmcidaaGlassBelow
import Derived.Test.YteaanagljmcidaaPkJ
import Derived.Test.YteaanagljmcidaaArgs6
namespace Go.Proofs.Yteaanagljmcidaa
open Go.ChangeShapes Go.WideShapes Go.ChangeAt Go.RowKit

set_option maxRecDepth 100000 in
theorem glassBelow_lifted (os : Os) (started : os.Started) (H : Type) (enc : TypeId × Value → H) :
    ReturnsInHanded {} Try.checked os 15 .any (Rows.glassBelowSpec.pre6 enc Try.prog Try.f15 Rows.glassBelowRow.domain false) (Rows.glassBelowSpec.post enc Try.prog Try.f15 false true false false) := by
  refine returnsInHanded_of_change_sized (C := Try.checked) Try.own started (by kernel_rfl) Try.func15
    (ChangeSpec.witness6 (enc := enc) (C := Try.checked) false ⟨#[], #[.slice none 0 0, .slice none 0 0, .slice none 0 0, .slice none 0 0], []⟩ 8 (by kernel_rfl) (by kernel_rfl) (by kernel_rfl) (by kernel_rfl)) ?_
  intro W base args ds gs before hval0 hW hcnd hsz0 _
  have hsz : (DataW.weightsEach Try.prog (Try.f15.params.toList ++ Rows.glassBelowSpec.plain.varTypes Try.prog) (ds ++ gs)).all (· ≤ reachBytes) = true := hsz0
  clear hsz0
  have hval : ∀ (j : Nat) t v, Try.f15.params[j]? = some t → args[j]? = some v → Value.okWide Try.prog W .any base t v := hval0
  have hW' := hW
  have hlt := fun p hp => DataW.Whole.lt hW p hp
  obtain ⟨p, q, hA0, hV, rfl, hfz, hnd⟩ := hW
  have hA : DataW.TrodAll enc Try.prog W 0 (fun _ => true) true Try.f15.params.toList args.toList ds p := hA0
  rw [Try.params15] at hA hval hsz
  obtain ⟨v0, v1, v2, v3, d0, d1, d2, d3, p0, p1, p2, p3, rfl, rfl, rfl, h0, h1, h2, h3⟩ := trodAll_four hA
  obtain ⟨rfl, rfl⟩ := trodVars_none hV
  obtain ⟨l0, hl0⟩ := open_ents (hval 0 43 v0 rfl rfl) h0 (fun b off hp => hfz b off (by simp [hp]))
  obtain ⟨l1, hl1⟩ := open_spans (hval 1 82 v1 rfl rfl) h1 (fun b off hp => hfz b off (by simp [hp]))
  obtain ⟨l2, hl2⟩ := open_ents (hval 2 43 v2 rfl rfl) h2 (fun b off hp => hfz b off (by simp [hp]))
  obtain ⟨l3, hl3, hr3⟩ := open_u64sR (hval 3 83 v3 rfl rfl) h3 (fun b off hp => hfz b off (by simp [hp]))
  have hr3 := reach_u64s hsz (j := 3) rfl rfl hr3
  clear hA0 hval0
  simp only [List.append_nil] at hW' hlt
  have hlt0 : ∀ x ∈ p0, x.block < W.heap.size := fun x hx => hlt x (by simp [hx])
  have hlt1 : ∀ x ∈ p1, x.block < W.heap.size := fun x hx => hlt x (by simp [hx])
  have hlt2 : ∀ x ∈ p2, x.block < W.heap.size := fun x hx => hlt x (by simp [hx])
  have hlt3 : ∀ x ∈ p3, x.block < W.heap.size := fun x hx => hlt x (by simp [hx])
  refine (glassBelow_walk W l0 hl0 l1 hl1 l2 hl2 l3 hl3 hr3).mono fun e W' ⟨he, hx⟩ => ?_
  subst he
  exact ⟨_, rfl, post_of_below (pa := _) (pv := []) hW' (fun _ _ _ => trodAll_mk1 (shut_bool Try.underlying4 true)) (fun sp hsp => trodAll_mk4 (stays r43 s43 h0 hx.below hlt0 sp (fun x hx => hsp x (by simp [hx]))) (stays r82 s82 h1 hx.below hlt1 sp (fun x hx => hsp x (by simp [hx]))) (stays r43 s43 h2 hx.below hlt2 sp (fun x hx => hsp x (by simp [hx]))) (stays r83 s83 h3 hx.below hlt3 sp (fun x hx => hsp x (by simp [hx])))) (fun _ _ => rfl) (by simp)
    hx.below (ok_one (by kernel_rfl) rfl (okWide_bool_mk Try.underlying4 true))⟩

set_option maxRecDepth 100000 in
set_option maxHeartbeats 2000000 in
theorem glassBelow_facts : joinedFacts Try.prog 15 Try.f15 Rows.glassBelowSpec Rows.glassBelowRow = true := by
  unfold joinedFacts
  repeat' (with_reducible refine and_i ?_ ?_)
  all_goals first
    | with_reducible exact Try.laidOut
    | with_reducible exact Try.mapsRowed
    | with_reducible exact Try.mayEnter
    | (rw [Try.liftsFinal]; kernel_rfl)
    | (rw [Try.make]; kernel_rfl)
    | as_aux_lemma => kernel_rfl

theorem glassBelow_holds : Rows.GlassBelowSaid :=
  OpenClaim.holds_of_wide 15 Try.f15 rfl rfl rfl rfl rfl rfl rfl ⟨rfl, rfl, rfl, rfl, rfl⟩ rfl rfl rfl rfl rfl (by kernel_rfl) Try.func15 glassBelow_facts
    (of_decide_eq_true (by kernel_rfl)) (by unfold Func.isWrapper; first | (rw [if_pos (by decide +kernel)]; kernel_rfl) | (rw [if_neg (by decide +kernel)]; exact ⟨rfl, rfl⟩))
    (fun os started H enc _ => glassBelow_lifted os started H enc)
end Go.Proofs.Yteaanagljmcidaa

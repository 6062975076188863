/- GlassBack answers true, whatever its input; the input reads as it did. No condition. -/
import Derived.Test.YteaanagljmcidaaGlassBack
import Derived.Test.YteaanagljmcidaaPkJ
namespace Go.Proofs.Yteaanagljmcidaa
open Go.ChangeShapes Go.WideShapes Go.ChangeAt Go.RowKit

set_option maxRecDepth 100000 in
theorem glassBack_lifted (os : Os) (started : os.Started) (H : Type) (enc : TypeId × Value → H) :
    ReturnsInHanded {} Try.checked os 20 .any (Rows.glassBackSpec.pre6 enc Try.prog Try.f20 Rows.glassBackRow.domain false) (Rows.glassBackSpec.post enc Try.prog Try.f20 false true false false) := by
  refine returnsInHanded_of_change (C := Try.checked) Try.own started (by kernel_rfl) Try.func20
    (ChangeSpec.witness6 (enc := enc) (C := Try.checked) false ⟨#[], #[.slice none 0 0, .slice none 0 0, .int .u64 0, .slice none 0 0, .slice none 0 0], []⟩ 8 (by kernel_rfl) (by kernel_rfl) (by kernel_rfl) (by kernel_rfl)) ?_
  intro W base args ds gs before hval0 hW hcnd _
  have hval : ∀ (j : Nat) t v, Try.f20.params[j]? = some t → args[j]? = some v → Value.okWide Try.prog W .any base t v := hval0
  have hW' := hW
  have hlt := fun p hp => DataW.Whole.lt hW p hp
  obtain ⟨p, q, hA0, hV, rfl, hfz, hnd⟩ := hW
  have hA : DataW.TrodAll enc Try.prog W 0 (fun _ => true) true Try.f20.params.toList args.toList ds p := hA0
  rw [Try.params20] at hA hval
  obtain ⟨v0, v1, v2, v3, v4, d0, d1, d2, d3, d4, p0, p1, p2, p3, p4, rfl, rfl, rfl, h0, h1, h2, h3, h4⟩ := trodAll_five hA
  obtain ⟨rfl, rfl⟩ := trodVars_none hV
  obtain ⟨l0, hl0⟩ := open_ents (hval 0 43 v0 rfl rfl) h0 (fun b off hp => hfz b off (by simp [hp]))
  obtain ⟨l1, hl1⟩ := open_spans (hval 1 82 v1 rfl rfl) h1 (fun b off hp => hfz b off (by simp [hp]))
  obtain ⟨l2, hl2⟩ := open_u64 (hval 2 28 v2 rfl rfl) h2
  obtain ⟨l3, hl3⟩ := open_bytes (hval 3 27 v3 rfl rfl) h3 (fun b off hp => hfz b off (by simp [hp]))
  obtain ⟨l4, hl4⟩ := open_bytes (hval 4 27 v4 rfl rfl) h4 (fun b off hp => hfz b off (by simp [hp]))
  clear hA0 hval0
  simp only [List.append_nil] at hW' hlt
  have hlt0 : ∀ x ∈ p0, x.block < W.heap.size := fun x hx => hlt x (by simp [hx])
  have hlt1 : ∀ x ∈ p1, x.block < W.heap.size := fun x hx => hlt x (by simp [hx])
  have hlt2 : ∀ x ∈ p2, x.block < W.heap.size := fun x hx => hlt x (by simp [hx])
  have hlt3 : ∀ x ∈ p3, x.block < W.heap.size := fun x hx => hlt x (by simp [hx])
  have hlt4 : ∀ x ∈ p4, x.block < W.heap.size := fun x hx => hlt x (by simp [hx])
  subst hl2
  refine (glassBack_walk W l0 hl0 l1 hl1 l2 l3 hl3 l4 hl4).mono fun e W' ⟨he, hx⟩ => ?_
  subst he
  exact ⟨_, rfl, post_of_below (pa := _) (pv := []) hW' (fun _ _ _ => trodAll_mk1 (shut_bool Try.underlying4 true)) (fun sp hsp => trodAll_mk5 (stays r43 s43 h0 hx.below hlt0 sp (fun x hx => hsp x (by simp [hx]))) (stays r82 s82 h1 hx.below hlt1 sp (fun x hx => hsp x (by simp [hx]))) (stays r28 s28 h2 hx.below hlt2 sp (fun x hx => hsp x (by simp [hx]))) (stays r27 s27 h3 hx.below hlt3 sp (fun x hx => hsp x (by simp [hx]))) (stays r27 s27 h4 hx.below hlt4 sp (fun x hx => hsp x (by simp [hx])))) (fun _ _ => rfl) (by simp)
    hx.below (ok_one (by kernel_rfl) rfl (okWide_bool_mk Try.underlying4 true))⟩

set_option maxRecDepth 100000 in
set_option maxHeartbeats 2000000 in
theorem glassBack_facts : joinedFacts Try.prog 20 Try.f20 Rows.glassBackSpec Rows.glassBackRow = true := by
  unfold joinedFacts
  repeat' (with_reducible refine and_i ?_ ?_)
  all_goals first
    | with_reducible exact Try.laidOut
    | with_reducible exact Try.mapsRowed
    | with_reducible exact Try.mayEnter
    | (rw [Try.liftsFinal]; kernel_rfl)
    | (rw [Try.make]; kernel_rfl)
    | as_aux_lemma => kernel_rfl

theorem glassBack_holds : Rows.GlassBackSaid :=
  OpenClaim.holds_of_wide 20 Try.f20 rfl rfl rfl rfl rfl rfl rfl ⟨rfl, rfl, rfl, rfl, rfl⟩ rfl rfl rfl rfl rfl (by kernel_rfl) Try.func20 glassBack_facts
    (of_decide_eq_true (by kernel_rfl)) (by unfold Func.isWrapper; first | (rw [if_pos (by decide +kernel)]; kernel_rfl) | (rw [if_neg (by decide +kernel)]; exact ⟨rfl, rfl⟩))
    (fun os started H enc _ => glassBack_lifted os started H enc)
end Go.Proofs.Yteaanagljmcidaa

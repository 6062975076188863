/- law10: MemoFind. -/
import Derived.Test.YteaanagljmcidaaRunR
import Derived.Test.YteaanagljmcidaaR10Find
namespace Go.Proofs.Yteaanagljmcidaa
open Go.RowKit

attribute [local go_sem ↓] Go.wp_at_zero Go.wp_at_succ

set_option maxRecDepth 100000 in
set_option maxHeartbeats 4000000 in
theorem memoFind_walk (w : World) {F G : Nat → Prop} {v kv : Value} (script : List StepE) (hv : Sl stepCA w F v script) (key : List UInt8) (hk : BsA w G kv key) (q : UInt64) : Calls Try.prog 22 #[v, kv, u64V q] w fun e w' => e = .returned (.bool true) ∧ Ext w w' := by
  obtain ⟨A, N, n, rfl⟩ := hv.form0
  obtain ⟨U, N1, n1, rfl⟩ := hk.form0
  have Hv := Lib.hid (hv.mono (G := fun b => b < w.heap.size) (fun b _ hb => hb) (.inl (by decide)))
  have Hk := Lib.hid hk
  clear hv hk
  go_enter Try.func22, Try.ntmps22
  go_wp2_with (first
    | (go_at_call 69; refine (law10_awake _).mono ?_; rintro r w1 ⟨rfl, hx1⟩; have HX1 := Lib.hid hx1; have hz1 := hx1.size; clear hx1)
    | (go_at_call 70; refine (memo_new _).mono ?_; rintro r w2 ⟨M, rfl, hx2, hm2⟩; have HX2 := Lib.hid (HX1.out.ext hx2); have HM2 := Lib.hid hm2; have hz2 := hx2.size; clear hm2 hx2)
    | (go_at_call 71; refine (law10_run0 HM2.out script (Hv.out.ext HX2.out) (fun b hb => by omega) (by omega) _ rfl).mono ?_; rintro r w3 ⟨rfl, ho3, s, xx, hran⟩; have HRan := Lib.hid hran; have HX3 : Hid (Ext w w3) := Lib.hid (HX2.out.then ho3 (fun b hb h => by omega)); clear hran ho3)
    | (go_at_call 77; refine (r1_cutI _ (Hk.out.ext HX3.out) 80 80 rfl (by decide)).mono ?_; rintro e w4 ⟨x4, rfl, hx4, hb4⟩; obtain ⟨K4, k4, c4, rfl⟩ := hb4.form0; have HX4 := Lib.hid (HX3.out.ext hx4); have HR4 := Lib.hid (HRan.out.ext hx4); have HB4 := Lib.hid hb4; clear hx4 hb4)
    | (go_at_call 73; refine (memo_get HR4.out.mm (key.take 80) HB4.out q.toNat).mono ?_; rw [get_rel HR4.out.rel HR4.out.good]; rintro e w5 ⟨x5, rfl, hx5, hb5⟩; obtain ⟨X5, n5, c5, rfl⟩ := hb5.form0; have HX5 := Lib.hid hx5; have HR5 := Lib.hid (HR4.out.ext hx5); have HB5 := Lib.hid hb5; clear hx5 hb5)
    | (go_at_call 89; refine (memo_entriesE HR5.out.mm rfl (by rw [List.length_map]; have := HR5.out.ok.1; omega)).mono ?_; rintro r w6 ⟨v6, rfl, hx6, hs6⟩; have HX6 := Lib.hid (HX5.out.ext hx6); have HY6 := Lib.hid hx6; have HR6 := Lib.hid (HR5.out.ext hx6); have HE6 := Lib.hid hs6; obtain ⟨V6, n6, c6, rfl⟩ := hs6.form0; clear hx6 hs6)
    | (go_at_call 90; refine (memo_spansE HR6.out.mm rfl (by have := HR6.out.ok.2.1; omega)).mono ?_; rintro r w7 ⟨v7, rfl, hx7, hs7⟩; have HX7 := Lib.hid (HX6.out.ext hx7); have HY7 := Lib.hid (HY6.out.ext hx7); have HE7 := Lib.hid (HE6.out.ext hx7); have HS7 := Lib.hid hs7; obtain ⟨V7, n7, c7, rfl⟩ := hs7.form0; clear hx7 hs7)
    | (go_at_call 88; refine (r10_find _ _ _ HE7.out HS7.out (key.take 80) (HB4.out.ext HX7.out) q.toNat).mono ?_; rw [HRan.out.rel.m, HRan.out.rel.l, find_x HRan.out.good]; rintro e w8 ⟨x8, rfl, hx8, hb8⟩; obtain ⟨X8, n8, c8, rfl⟩ := hb8.form0; have HX8 := Lib.hid (HX7.out.ext hx8); have HY8 := Lib.hid (HY7.out.ext hx8); have HB8 := Lib.hid hb8; clear hx8 hb8)
    | (go_at_call 74; refine (r1_same _ (HB5.out.ext HY8.out) HB8.out).mono ?_; rintro r w9 ⟨rfl, rfl⟩))
  go_ret
  exact ⟨by simp, HX4.out.ext HX8.out⟩
end Go.Proofs.Yteaanagljmcidaa

/- Arguments, as they come in: numbers, no more of them than a machine bears. -/
import Derived.Test.YteaanagljmcidaaPkJ
import Derived.SizedLaws
namespace Go.Proofs.Yteaanagljmcidaa
open Go.ChangeShapes Go.WideShapes Go.ChangeAt Go.RowKit
set_option maxRecDepth 100000

section
variable {H : Type} {enc : TypeId × Value → H} {w : World} {base : Nat} {spare : Nat → Bool} {held : Bool}
theorem open_u64sR {r : Reach} {b0 : Nat} {v : Value} {d : DataW H} {ps : List MemPlace} (hval : Value.okWide Try.prog w r b0 83 v) (h : DataW.Trod enc Try.prog w base spare held 83 v d ps) (hz : w.noneFrozen ps) :
    ∃ l, Sl u64CA w (fun _ => True) v l ∧ ((∃ es rs, d = .slice es rs ∧ l.length ≤ es.length + rs.length) ∨ l.length = 0) := by
  obtain ⟨l, hl⟩ := open_u64s hval h hz
  refine ⟨l, hl, ?_⟩
  obtain ⟨A, cap0, hv, -⟩ := hl.form
  obtain ⟨n, h⟩ := h
  rw [hv] at h
  rcases Deep.open_slice Try.underlying83 h with ⟨e, -⟩ | ⟨a, len, cap, m, k, D, Pl, e, -, -, -, -, hx, -⟩
  · right
    injection (show [Value.slice A l.length cap0] = [Value.slice none 0 0] from by simpa [Value.cells] using e) with h1 h2
    injection h1
  · left
    have hlen : l.length = len := by
      injection (show [Value.slice A l.length cap0] = [Value.slice (some a) len cap] from by simpa [Value.cells] using e) with h1 h2
      injection h1
    refine ⟨_, _, congrArg Prod.fst hx, ?_⟩
    rw [List.length_map, List.length_range]
    omega
theorem bytes28 : Try.prog.bytesOf 28 = 8 := by kernel_rfl
theorem reach_u64s {ts : List TypeId} {ds : List (DataW H)} (hsz : (DataW.weightsEach Try.prog ts ds).all (· ≤ reachBytes) = true) {j : Nat} (ht : ts[j]? = some 83) {d : DataW H} (hd : ds[j]? = some d) {l : List UInt64} (h : (∃ es rs, d = .slice es rs ∧ l.length ≤ es.length + rs.length) ∨ l.length = 0) : l.length * 8 ≤ 140737488351232 := by
  rcases h with ⟨es, rs, rfl, hl⟩ | h
  · have := sized_slice hsz ht hd Try.underlying83
    rw [bytes28] at this
    have hr : reachBytes = 140737488351232 := rfl
    omega
  · omega
end
end Go.Proofs.Yteaanagljmcidaa

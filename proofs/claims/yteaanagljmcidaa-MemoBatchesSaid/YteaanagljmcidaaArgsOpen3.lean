/- Arguments, as they come in: ops. -/
import Derived.Test.YteaanagljmcidaaArgsOpen2
import Derived.Test.YteaanagljmcidaaOpsB
namespace Go.Proofs.Yteaanagljmcidaa
open Go.ChangeShapes Go.WideShapes Go.ChangeAt Go.RowKit
set_option maxRecDepth 100000

section
variable {H : Type} {enc : TypeId × Value → H} {w : World} {base : Nat} {spare : Nat → Bool} {held : Bool}

theorem trod_op {n : Nat} {cs : List Value} {y : DataW H × List MemPlace} (h : DataW.trod enc Try.prog w base spare held n 112 cs = some y) (hz : w.noneFrozen y.2) : ∃ a, opCA.rep w (fun _ => True) cs a := by
  obtain ⟨xs, m, rfl, hye, hl, hs, hf⟩ := DataW.trod_struct Try.underlying112 h
  have hl3 : cs.length = 3 := hl.trans (by kernel_rfl)
  have h0 := hf 0 _ rfl
  have h1 := hf 1 _ rfl
  have h2 := hf 2 _ rfl
  rw [List.getElem?_eq_getElem (by rw [hs]; decide)] at h0 h1 h2
  obtain ⟨k, e0⟩ := trod_u8 h0
  obtain ⟨u, l, e1, hb⟩ := trod_bytes h1 (none_of hye hz _)
  obtain ⟨v, l2, e2, hc⟩ := trod_bytes h2 (none_of hye hz _)
  refine ⟨⟨k, l, l2⟩, u, v, ?_, hb, hc⟩
  have e := cut3 hl3
  rw [e]
  have e0' : (cs.drop 0).take 1 = [byteV k] := e0
  have e1' : (cs.drop 1).take 1 = [u] := e1
  have e2' : (cs.drop 2).take 1 = [v] := e2
  rw [e0', e1', e2']; rfl
theorem trod_ops {n : Nat} {cs : List Value} {y : DataW H × List MemPlace} (h : DataW.trod enc Try.prog w base spare held n 101 cs = some y) (hz : w.noneFrozen y.2) : ∃ v l, cs = [v] ∧ Sl opCA w (fun _ => True) v l :=
  trod_sl (c := opCA) Try.underlying101 (by kernel_rfl) (by decide) rfl (fun _ _ _ h hz => trod_op h hz) h hz
theorem open_ops {r : Reach} {b0 : Nat} {v : Value} {d : DataW H} {ps : List MemPlace} (hval : Value.okWide Try.prog w r b0 101 v) (h : DataW.Trod enc Try.prog w base spare held 101 v d ps) (hz : w.noneFrozen ps) : ∃ l, Sl opCA w (fun _ => True) v l := by
  obtain ⟨a, len, cap, rfl⟩ := okWide_slice Try.underlying101 hval
  obtain ⟨n, h⟩ := h
  obtain ⟨v', l, e, hs⟩ := trod_ops h hz
  have : v' = .slice a len cap := by simpa [Value.cells] using e.symm
  exact ⟨l, this ▸ hs⟩
theorem r101 : Try.prog.readableRec 101 = true := by kernel_rfl
theorem s101 : 101 < Try.prog.types.size := of_decide_eq_true (by kernel_rfl)
end
end Go.Proofs.Yteaanagljmcidaa

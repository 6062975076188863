/- More arguments, as they come in: bools, keys, entries, lists of lists, steps. -/
import Derived.Test.YteaanagljmcidaaArgsOpen
namespace Go.Proofs.Yteaanagljmcidaa
open Go.ChangeShapes Go.WideShapes Go.ChangeAt Go.RowKit
set_option maxRecDepth 100000

/-- Lists of entries, however long: an argument's. -/
def listCA : Codec (List Ent) := { slC entCA (by decide) with bound := maxLen, bpos := by decide }
/-- A step. -/
structure GoE where
  op : UInt8
  k : Key
  deriving Inhabited
def goCA : Codec GoE where
  size := 4
  rep w F cs p := ∃ u, cs = [byteV p.op, u, u64V p.k.seq, byteV p.k.kind] ∧ BsA w F u p.k.user
  len := fun ⟨_, h, _⟩ => by rw [h]; rfl
  one := fun ⟨u, h, hb⟩ x hx => by
    rw [h] at hx; obtain ⟨A, cap, rfl, _⟩ := hb.form
    simp only [List.mem_cons, List.not_mem_nil, or_false] at hx
    rcases hx with rfl | rfl | rfl | rfl <;> rfl
  frame := fun ⟨u, h, hb⟩ hF => ⟨u, h, hb.frame hF⟩
  mono := fun ⟨u, h, hb⟩ hF => ⟨u, h, hb.mono hF (.inl (by decide))⟩
  bound := maxLen
  bpos := by decide

section
variable {H : Type} {enc : TypeId × Value → H} {w : World} {base : Nat} {spare : Nat → Bool} {held : Bool}

theorem open_bool {r : Reach} {b0 : Nat} {v : Value} (hval : Value.okWide Try.prog w r b0 4 v) : ∃ b, v = .bool b := okWide_bool Try.underlying4 hval
theorem open_u64 {r : Reach} {b0 : Nat} {v : Value} {d : DataW H} {ps : List MemPlace} (hval : Value.okWide Try.prog w r b0 28 v) (h : DataW.Trod enc Try.prog w base spare held 28 v d ps) : ∃ a : UInt64, v = u64V a := by
  obtain ⟨z, rfl⟩ := okWide_int Try.underlying28 hval
  obtain ⟨n, h⟩ := h
  obtain ⟨a, e⟩ := trod_u64 h
  exact ⟨a, by simpa [Value.cells] using e⟩
theorem open_keys {r : Reach} {b0 : Nat} {v : Value} {d : DataW H} {ps : List MemPlace} (hval : Value.okWide Try.prog w r b0 37 v) (h : DataW.Trod enc Try.prog w base spare held 37 v d ps) (hz : w.noneFrozen ps) : ∃ l, Sl keyCA w (fun _ => True) v l := by
  obtain ⟨a, len, cap, rfl⟩ := okWide_slice Try.underlying37 hval
  obtain ⟨n, h⟩ := h
  obtain ⟨v', l, e, hs⟩ := trod_sl (c := keyCA) Try.underlying37 (by kernel_rfl) (by decide) rfl (fun _ _ _ h hz => trod_key h hz) h hz
  have : v' = .slice a len cap := by simpa [Value.cells] using e.symm
  exact ⟨l, this ▸ hs⟩
theorem trod_ents {n : Nat} {cs : List Value} {y : DataW H × List MemPlace} (h : DataW.trod enc Try.prog w base spare held n 43 cs = some y) (hz : w.noneFrozen y.2) : ∃ v l, cs = [v] ∧ Sl entCA w (fun _ => True) v l :=
  trod_sl (c := entCA) Try.underlying43 (by kernel_rfl) (by decide) rfl (fun _ _ _ h hz => trod_ent h hz) h hz
theorem open_ents {r : Reach} {b0 : Nat} {v : Value} {d : DataW H} {ps : List MemPlace} (hval : Value.okWide Try.prog w r b0 43 v) (h : DataW.Trod enc Try.prog w base spare held 43 v d ps) (hz : w.noneFrozen ps) : ∃ l, Sl entCA w (fun _ => True) v l := by
  obtain ⟨a, len, cap, rfl⟩ := okWide_slice Try.underlying43 hval
  obtain ⟨n, h⟩ := h
  obtain ⟨v', l, e, hs⟩ := trod_ents h hz
  have : v' = .slice a len cap := by simpa [Value.cells] using e.symm
  exact ⟨l, this ▸ hs⟩
theorem open_lists {r : Reach} {b0 : Nat} {v : Value} {d : DataW H} {ps : List MemPlace} (hval : Value.okWide Try.prog w r b0 62 v) (h : DataW.Trod enc Try.prog w base spare held 62 v d ps) (hz : w.noneFrozen ps) : ∃ l, Sl listCA w (fun _ => True) v l := by
  obtain ⟨a, len, cap, rfl⟩ := okWide_slice Try.underlying62 hval
  obtain ⟨n, h⟩ := h
  obtain ⟨v', l, e, hs⟩ := trod_sl (c := listCA) Try.underlying62 (by kernel_rfl) (by decide) rfl (fun _ cs _ h hz => (by
    obtain ⟨x, m, e, hs⟩ := trod_ents h hz
    exact ⟨m, x, e, hs⟩)) h hz
  have : v' = .slice a len cap := by simpa [Value.cells] using e.symm
  exact ⟨l, this ▸ hs⟩
theorem cut13 {cs : List Value} (h : cs.length = 4) : cs = (cs.drop 0).take 1 ++ (cs.drop 1).take 3 := by
  match cs, h with
  | [a, b, c, d], _ => rfl
theorem trod_go {n : Nat} {cs : List Value} {y : DataW H × List MemPlace} (h : DataW.trod enc Try.prog w base spare held n 72 cs = some y) (hz : w.noneFrozen y.2) : ∃ a, goCA.rep w (fun _ => True) cs a := by
  obtain ⟨xs, m, rfl, hye, hl, hs, hf⟩ := DataW.trod_struct Try.underlying72 h
  have hl4 : cs.length = 4 := hl.trans (by kernel_rfl)
  have h0 := hf 0 _ rfl
  have h1 := hf 1 _ rfl
  rw [List.getElem?_eq_getElem (by rw [hs]; decide)] at h0 h1
  obtain ⟨b, e0⟩ := trod_u8 h0
  obtain ⟨k, u, e1, hb⟩ := trod_key h1 (none_of hye hz _)
  refine ⟨⟨b, k⟩, u, ?_, hb⟩
  have e := cut13 hl4
  rw [e]
  have e0' : (cs.drop 0).take 1 = [byteV b] := e0
  have e1' : (cs.drop 1).take 3 = [u, u64V k.seq, byteV k.kind] := e1
  rw [e0', e1']; rfl
theorem open_steps {r : Reach} {b0 : Nat} {v : Value} {d : DataW H} {ps : List MemPlace} (hval : Value.okWide Try.prog w r b0 63 v) (h : DataW.Trod enc Try.prog w base spare held 63 v d ps) (hz : w.noneFrozen ps) : ∃ l, Sl goCA w (fun _ => True) v l := by
  obtain ⟨a, len, cap, rfl⟩ := okWide_slice Try.underlying63 hval
  obtain ⟨n, h⟩ := h
  obtain ⟨v', l, e, hs⟩ := trod_sl (c := goCA) Try.underlying63 (by kernel_rfl) (by decide) rfl (fun _ _ _ h hz => trod_go h hz) h hz
  have : v' = .slice a len cap := by simpa [Value.cells] using e.symm
  exact ⟨l, this ▸ hs⟩
theorem open_key {r : Reach} {b0 : Nat} {v : Value} {d : DataW H} {ps : List MemPlace} (hval : Value.okWide Try.prog w r b0 30 v) (h : DataW.Trod enc Try.prog w base spare held 30 v d ps) (hz : w.noneFrozen ps) : ∃ (u : Value) (k : Key), v = .agg #[u, u64V k.seq, byteV k.kind] ∧ BsA w (fun _ => True) u k.user := by
  obtain ⟨cs, rfl, hs⟩ := okWide_struct Try.underlying30 hval
  obtain ⟨n, h⟩ := h
  obtain ⟨k, u, e, hb⟩ := trod_key h hz
  have : cs = #[u, u64V k.seq, byteV k.kind] := by
    have e2 : cs.toList = [u, u64V k.seq, byteV k.kind] := by simpa [Value.cells] using e
    rw [← e2, Array.toArray_toList]
  exact ⟨u, k, by rw [this], hb⟩
theorem r4 : Try.prog.readableRec 4 = true := by kernel_rfl
theorem s4 : 4 < Try.prog.types.size := of_decide_eq_true (by kernel_rfl)
theorem r28 : Try.prog.readableRec 28 = true := by kernel_rfl
theorem s28 : 28 < Try.prog.types.size := of_decide_eq_true (by kernel_rfl)
theorem r30 : Try.prog.readableRec 30 = true := by kernel_rfl
theorem s30 : 30 < Try.prog.types.size := of_decide_eq_true (by kernel_rfl)
theorem r37 : Try.prog.readableRec 37 = true := by kernel_rfl
theorem s37 : 37 < Try.prog.types.size := of_decide_eq_true (by kernel_rfl)
theorem r43 : Try.prog.readableRec 43 = true := by kernel_rfl
theorem s43 : 43 < Try.prog.types.size := of_decide_eq_true (by kernel_rfl)
theorem r62 : Try.prog.readableRec 62 = true := by kernel_rfl
theorem s62 : 62 < Try.prog.types.size := of_decide_eq_true (by kernel_rfl)
theorem r63 : Try.prog.readableRec 63 = true := by kernel_rfl
theorem s63 : 63 < Try.prog.types.size := of_decide_eq_true (by kernel_rfl)
end
end Go.Proofs.Yteaanagljmcidaa

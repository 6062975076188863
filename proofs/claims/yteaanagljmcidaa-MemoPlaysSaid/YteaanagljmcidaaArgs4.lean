/- More arguments, as they come in: bools, keys, entries, lists of lists, steps. Arguments, as they come in: ops. Arguments, as they come in: steps of a script, an op, lists of bytes, numbers. -/
import Derived.Test.YteaanagljmcidaaArgsOpen
import Derived.Test.YteaanagljmcidaaOps
namespace Go.Proofs.Yteaanagljmcidaa
open Go.ChangeShapes Go.WideShapes Go.ChangeAt Go.RowKit
set_option maxRecDepth 100000

/-- Lists of entries, however long: an argument's. -/
def listCA : Codec (List Ent) := { slC entCA (by decide) with bound := maxLen, bpos := by decide }
/-- A step. -/
structure GoE where
  op : UInt8
  k : Key
  deriving Inhabited
def goCA : Codec GoE where
  size := 4
  rep w F cs p := ∃ u, cs = [byteV p.op, u, u64V p.k.seq, byteV p.k.kind] ∧ BsA w F u p.k.user
  len := fun ⟨_, h, _⟩ => by rw [h]; rfl
  one := fun ⟨u, h, hb⟩ x hx => by
    rw [h] at hx; obtain ⟨A, cap, rfl, _⟩ := hb.form
    simp only [List.mem_cons, List.not_mem_nil, or_false] at hx
    rcases hx with rfl | rfl | rfl | rfl <;> rfl
  frame := fun ⟨u, h, hb⟩ hF => ⟨u, h, hb.frame hF⟩
  mono := fun ⟨u, h, hb⟩ hF => ⟨u, h, hb.mono hF (.inl (by decide))⟩
  bound := maxLen
  bpos := by decide

section
variable {H : Type} {enc : TypeId × Value → H} {w : World} {base : Nat} {spare : Nat → Bool} {held : Bool}

theorem open_bool {r : Reach} {b0 : Nat} {v : Value} (hval : Value.okWide Try.prog w r b0 4 v) : ∃ b, v = .bool b := okWide_bool Try.underlying4 hval
theorem open_u64 {r : Reach} {b0 : Nat} {v : Value} {d : DataW H} {ps : List MemPlace} (hval : Value.okWide Try.prog w r b0 28 v) (h : DataW.Trod enc Try.prog w base spare held 28 v d ps) : ∃ a : UInt64, v = u64V a := by
  obtain ⟨z, rfl⟩ := okWide_int Try.underlying28 hval
  obtain ⟨n, h⟩ := h
  obtain ⟨a, e⟩ := trod_u64 h
  exact ⟨a, by simpa [Value.cells] using e⟩
theorem open_keys {r : Reach} {b0 : Nat} {v : Value} {d : DataW H} {ps : List MemPlace} (hval : Value.okWide Try.prog w r b0 37 v) (h : DataW.Trod enc Try.prog w base spare held 37 v d ps) (hz : w.noneFrozen ps) : ∃ l, Sl keyCA w (fun _ => True) v l := by
  obtain ⟨a, len, cap, rfl⟩ := okWide_slice Try.underlying37 hval
  obtain ⟨n, h⟩ := h
  obtain ⟨v', l, e, hs⟩ := trod_sl (c := keyCA) Try.underlying37 (by kernel_rfl) (by decide) rfl (fun _ _ _ h hz => trod_key h hz) h hz
  have : v' = .slice a len cap := by simpa [Value.cells] using e.symm
  exact ⟨l, this ▸ hs⟩
theorem trod_ents {n : Nat} {cs : List Value} {y : DataW H × List MemPlace} (h : DataW.trod enc Try.prog w base spare held n 43 cs = some y) (hz : w.noneFrozen y.2) : ∃ v l, cs = [v] ∧ Sl entCA w (fun _ => True) v l :=
  trod_sl (c := entCA) Try.underlying43 (by kernel_rfl) (by decide) rfl (fun _ _ _ h hz => trod_ent h hz) h hz
theorem open_ents {r : Reach} {b0 : Nat} {v : Value} {d : DataW H} {ps : List MemPlace} (hval : Value.okWide Try.prog w r b0 43 v) (h : DataW.Trod enc Try.prog w base spare held 43 v d ps) (hz : w.noneFrozen ps) : ∃ l, Sl entCA w (fun _ => True) v l := by
  obtain ⟨a, len, cap, rfl⟩ := okWide_slice Try.underlying43 hval
  obtain ⟨n, h⟩ := h
  obtain ⟨v', l, e, hs⟩ := trod_ents h hz
  have : v' = .slice a len cap := by simpa [Value.cells] using e.symm
  exact ⟨l, this ▸ hs⟩
theorem open_lists {r : Reach} {b0 : Nat} {v : Value} {d : DataW H} {ps : List MemPlace} (hval : Value.okWide Try.prog w r b0 62 v) (h : DataW.Trod enc Try.prog w base spare held 62 v d ps) (hz : w.noneFrozen ps) : ∃ l, Sl listCA w (fun _ => True) v l := by
  obtain ⟨a, len, cap, rfl⟩ := okWide_slice Try.underlying62 hval
  obtain ⟨n, h⟩ := h
  obtain ⟨v', l, e, hs⟩ := trod_sl (c := listCA) Try.underlying62 (by kernel_rfl) (by decide) rfl (fun _ cs _ h hz => (by
    obtain ⟨x, m, e, hs⟩ := trod_ents h hz
    exact ⟨m, x, e, hs⟩)) h hz
  have : v' = .slice a len cap := by simpa [Value.cells] using e.symm
  exact ⟨l, this ▸ hs⟩
theorem cut13 {cs : List Value} (h : cs.length = 4) : cs = (cs.drop 0).take 1 ++ (cs.drop 1).take 3 := by
  match cs, h with
  | [a, b, c, d], _ => rfl
theorem trod_go {n : Nat} {cs : List Value} {y : DataW H × List MemPlace} (h : DataW.trod enc Try.prog w base spare held n 72 cs = some y) (hz : w.noneFrozen y.2) : ∃ a, goCA.rep w (fun _ => True) cs a := by
  obtain ⟨xs, m, rfl, hye, hl, hs, hf⟩ := DataW.trod_struct Try.underlying72 h
  have hl4 : cs.length = 4 := hl.trans (by kernel_rfl)
  have h0 := hf 0 _ rfl
  have h1 := hf 1 _ rfl
  rw [List.getElem?_eq_getElem (by rw [hs]; decide)] at h0 h1
  obtain ⟨b, e0⟩ := trod_u8 h0
  obtain ⟨k, u, e1, hb⟩ := trod_key h1 (none_of hye hz _)
  refine ⟨⟨b, k⟩, u, ?_, hb⟩
  have e := cut13 hl4
  rw [e]
  have e0' : (cs.drop 0).take 1 = [byteV b] := e0
  have e1' : (cs.drop 1).take 3 = [u, u64V k.seq, byteV k.kind] := e1
  rw [e0', e1']; rfl
theorem open_steps {r : Reach} {b0 : Nat} {v : Value} {d : DataW H} {ps : List MemPlace} (hval : Value.okWide Try.prog w r b0 63 v) (h : DataW.Trod enc Try.prog w base spare held 63 v d ps) (hz : w.noneFrozen ps) : ∃ l, Sl goCA w (fun _ => True) v l := by
  obtain ⟨a, len, cap, rfl⟩ := okWide_slice Try.underlying63 hval
  obtain ⟨n, h⟩ := h
  obtain ⟨v', l, e, hs⟩ := trod_sl (c := goCA) Try.underlying63 (by kernel_rfl) (by decide) rfl (fun _ _ _ h hz => trod_go h hz) h hz
  have : v' = .slice a len cap := by simpa [Value.cells] using e.symm
  exact ⟨l, this ▸ hs⟩
theorem open_key {r : Reach} {b0 : Nat} {v : Value} {d : DataW H} {ps : List MemPlace} (hval : Value.okWide Try.prog w r b0 30 v) (h : DataW.Trod enc Try.prog w base spare held 30 v d ps) (hz : w.noneFrozen ps) : ∃ (u : Value) (k : Key), v = .agg #[u, u64V k.seq, byteV k.kind] ∧ BsA w (fun _ => True) u k.user := by
  obtain ⟨cs, rfl, hs⟩ := okWide_struct Try.underlying30 hval
  obtain ⟨n, h⟩ := h
  obtain ⟨k, u, e, hb⟩ := trod_key h hz
  have : cs = #[u, u64V k.seq, byteV k.kind] := by
    have e2 : cs.toList = [u, u64V k.seq, byteV k.kind] := by simpa [Value.cells] using e
    rw [← e2, Array.toArray_toList]
  exact ⟨u, k, by rw [this], hb⟩
theorem r4 : Try.prog.readableRec 4 = true := by kernel_rfl
theorem s4 : 4 < Try.prog.types.size := of_decide_eq_true (by kernel_rfl)
theorem r28 : Try.prog.readableRec 28 = true := by kernel_rfl
theorem s28 : 28 < Try.prog.types.size := of_decide_eq_true (by kernel_rfl)
theorem r30 : Try.prog.readableRec 30 = true := by kernel_rfl
theorem s30 : 30 < Try.prog.types.size := of_decide_eq_true (by kernel_rfl)
theorem r37 : Try.prog.readableRec 37 = true := by kernel_rfl
theorem s37 : 37 < Try.prog.types.size := of_decide_eq_true (by kernel_rfl)
theorem r43 : Try.prog.readableRec 43 = true := by kernel_rfl
theorem s43 : 43 < Try.prog.types.size := of_decide_eq_true (by kernel_rfl)
theorem r62 : Try.prog.readableRec 62 = true := by kernel_rfl
theorem s62 : 62 < Try.prog.types.size := of_decide_eq_true (by kernel_rfl)
theorem r63 : Try.prog.readableRec 63 = true := by kernel_rfl
theorem s63 : 63 < Try.prog.types.size := of_decide_eq_true (by kernel_rfl)
end
end Go.Proofs.Yteaanagljmcidaa
namespace Go.Proofs.Yteaanagljmcidaa
open Go.ChangeShapes Go.WideShapes Go.ChangeAt Go.RowKit
set_option maxRecDepth 100000

section
variable {H : Type} {enc : TypeId × Value → H} {w : World} {base : Nat} {spare : Nat → Bool} {held : Bool}

theorem trod_op {n : Nat} {cs : List Value} {y : DataW H × List MemPlace} (h : DataW.trod enc Try.prog w base spare held n 112 cs = some y) (hz : w.noneFrozen y.2) : ∃ a, opCA.rep w (fun _ => True) cs a := by
  obtain ⟨xs, m, rfl, hye, hl, hs, hf⟩ := DataW.trod_struct Try.underlying112 h
  have hl3 : cs.length = 3 := hl.trans (by kernel_rfl)
  have h0 := hf 0 _ rfl
  have h1 := hf 1 _ rfl
  have h2 := hf 2 _ rfl
  rw [List.getElem?_eq_getElem (by rw [hs]; decide)] at h0 h1 h2
  obtain ⟨k, e0⟩ := trod_u8 h0
  obtain ⟨u, l, e1, hb⟩ := trod_bytes h1 (none_of hye hz _)
  obtain ⟨v, l2, e2, hc⟩ := trod_bytes h2 (none_of hye hz _)
  refine ⟨⟨k, l, l2⟩, u, v, ?_, hb, hc⟩
  have e := cut3 hl3
  rw [e]
  have e0' : (cs.drop 0).take 1 = [byteV k] := e0
  have e1' : (cs.drop 1).take 1 = [u] := e1
  have e2' : (cs.drop 2).take 1 = [v] := e2
  rw [e0', e1', e2']; rfl
theorem trod_ops {n : Nat} {cs : List Value} {y : DataW H × List MemPlace} (h : DataW.trod enc Try.prog w base spare held n 101 cs = some y) (hz : w.noneFrozen y.2) : ∃ v l, cs = [v] ∧ Sl opCA w (fun _ => True) v l :=
  trod_sl (c := opCA) Try.underlying101 (by kernel_rfl) (by decide) rfl (fun _ _ _ h hz => trod_op h hz) h hz
theorem open_ops {r : Reach} {b0 : Nat} {v : Value} {d : DataW H} {ps : List MemPlace} (hval : Value.okWide Try.prog w r b0 101 v) (h : DataW.Trod enc Try.prog w base spare held 101 v d ps) (hz : w.noneFrozen ps) : ∃ l, Sl opCA w (fun _ => True) v l := by
  obtain ⟨a, len, cap, rfl⟩ := okWide_slice Try.underlying101 hval
  obtain ⟨n, h⟩ := h
  obtain ⟨v', l, e, hs⟩ := trod_ops h hz
  have : v' = .slice a len cap := by simpa [Value.cells] using e.symm
  exact ⟨l, this ▸ hs⟩
theorem r101 : Try.prog.readableRec 101 = true := by kernel_rfl
theorem s101 : 101 < Try.prog.types.size := of_decide_eq_true (by kernel_rfl)
end
end Go.Proofs.Yteaanagljmcidaa
namespace Go.Proofs.Yteaanagljmcidaa
open Go.ChangeShapes Go.WideShapes Go.ChangeAt Go.RowKit
set_option maxRecDepth 100000

def intCA : Codec Int := { intC with bound := maxLen, bpos := by decide }
def u64CA : Codec UInt64 := { u64C with bound := maxLen, bpos := by decide }
def bytesCA : Codec (List UInt8) := { slC byteCA (by decide) with bound := maxLen, bpos := by decide }
/-- A step of a script. -/
structure StepE where
  alone : Bool
  ops : List OpE
  seq : UInt64
  hts : List Int
  deriving Inhabited
def stepCA : Codec StepE where
  size := 4
  rep w F cs s := ∃ u v, cs = [.bool s.alone, u, u64V s.seq, v] ∧ Sl opCA w F u s.ops ∧ Sl intCA w F v s.hts
  len := fun ⟨_, _, h, _⟩ => by rw [h]; rfl
  one := fun ⟨u, v, h, hb, hc⟩ x hx => by
    rw [h] at hx; obtain ⟨A, cap, rfl, _⟩ := hb.form; obtain ⟨A', cap', rfl, _⟩ := hc.form
    simp only [List.mem_cons, List.not_mem_nil, or_false] at hx
    rcases hx with rfl | rfl | rfl | rfl <;> rfl
  frame := fun ⟨u, v, h, hb, hc⟩ hF => ⟨u, v, h, hb.frame hF, hc.frame hF⟩
  mono := fun ⟨u, v, h, hb, hc⟩ hF => ⟨u, v, h, hb.mono hF (.inl (by decide)), hc.mono hF (.inl (by decide))⟩
  bound := maxLen
  bpos := by decide
theorem Sl.step {w : World} {F : Nat → Prop} {A : Option Addr} {n cap : Nat} {l : List StepE} (h : Sl stepCA w F (.slice A n cap) l) (i : Nat) (hi : i < l.length) :
    ∃ b off u v, A = some ⟨b, off, none⟩ ∧ F b ∧ w.cell? ⟨b, off + i * 4, none⟩ = some (.bool l[i].alone) ∧ w.cell? ⟨b, off + i * 4 + 1, none⟩ = some u ∧ w.cell? ⟨b, off + i * 4 + 2, none⟩ = some (u64V l[i].seq) ∧ w.cell? ⟨b, off + i * 4 + 3, none⟩ = some v ∧ Sl opCA w F u l[i].ops ∧ Sl intCA w F v l[i].hts := by
  obtain ⟨b, off, cs, hA, hF, hat, u, v, rfl, h1, h2⟩ := h.get i hi
  exact ⟨b, off, u, v, hA, hF, hat 0 _ rfl, hat 1 _ rfl, hat 2 _ rfl, hat 3 _ rfl, h1, h2⟩

section
variable {H : Type} {enc : TypeId × Value → H} {w : World} {base : Nat} {spare : Nat → Bool} {held : Bool}

theorem trod_i64 {n : Nat} {cs : List Value} {y : DataW H × List MemPlace} (h : DataW.trod enc Try.prog w base spare held n 3 cs = some y) : ∃ a, intCA.rep w (fun _ => True) cs a := by
  obtain ⟨z, e1, _, hw⟩ := DataW.trod_int Try.underlying3 h
  have h2 : (-9223372036854775808 : Int) ≤ z ∧ z ≤ 9223372036854775807 := by have := hw; unfold Lit.wf at this; rw [Bool.and_eq_true, decide_eq_true_iff, decide_eq_true_iff] at this; exact this
  exact ⟨z, e1, h2.1, h2.2⟩
theorem trod_ints {n : Nat} {cs : List Value} {y : DataW H × List MemPlace} (h : DataW.trod enc Try.prog w base spare held n 54 cs = some y) (hz : w.noneFrozen y.2) : ∃ v l, cs = [v] ∧ Sl intCA w (fun _ => True) v l :=
  trod_sl (c := intCA) Try.underlying54 (by kernel_rfl) (by decide) rfl (fun _ _ _ h _ => trod_i64 h) h hz
theorem trod_u64A {n : Nat} {cs : List Value} {y : DataW H × List MemPlace} (h : DataW.trod enc Try.prog w base spare held n 28 cs = some y) : ∃ a, u64CA.rep w (fun _ => True) cs a := trod_u64 h
theorem cut4a {cs : List Value} (h : cs.length = 4) : cs = (cs.drop 0).take 1 ++ ((cs.drop 1).take 1 ++ ((cs.drop 2).take 1 ++ (cs.drop 3).take 1)) := by
  match cs, h with
  | [a, b, c, d], _ => rfl
theorem trod_boolA {n : Nat} {cs : List Value} {y : DataW H × List MemPlace} (h : DataW.trod enc Try.prog w base spare held n 4 cs = some y) : ∃ b, cs = [Value.bool b] := by
  obtain ⟨b, e, -⟩ := DataW.trod_bool Try.underlying4 h
  exact ⟨b, e⟩
theorem trod_step {n : Nat} {cs : List Value} {y : DataW H × List MemPlace} (h : DataW.trod enc Try.prog w base spare held n 185 cs = some y) (hz : w.noneFrozen y.2) : ∃ a, stepCA.rep w (fun _ => True) cs a := by
  obtain ⟨xs, m, rfl, hye, hl, hs, hf⟩ := DataW.trod_struct Try.underlying185 h
  have hl4 : cs.length = 4 := hl.trans (by kernel_rfl)
  have h0 := hf 0 _ rfl
  have h1 := hf 1 _ rfl
  have h2 := hf 2 _ rfl
  have h3 := hf 3 _ rfl
  rw [List.getElem?_eq_getElem (by rw [hs]; decide)] at h0 h1 h2 h3
  obtain ⟨k, e0⟩ := trod_boolA h0
  obtain ⟨u, l, e1, hb⟩ := trod_ops h1 (none_of hye hz _)
  obtain ⟨q, e2⟩ := trod_u64 h2
  obtain ⟨v, l2, e3, hc⟩ := trod_ints h3 (none_of hye hz _)
  refine ⟨⟨k, l, q, l2⟩, u, v, ?_, hb, hc⟩
  have e := cut4a hl4
  rw [e]
  have e0' : (cs.drop 0).take 1 = [.bool k] := e0
  have e1' : (cs.drop 1).take 1 = [u] := e1
  have e2' : (cs.drop 2).take 1 = [u64V q] := e2
  have e3' : (cs.drop 3).take 1 = [v] := e3
  rw [e0', e1', e2', e3']; rfl
theorem open_opsteps {r : Reach} {b0 : Nat} {v : Value} {d : DataW H} {ps : List MemPlace} (hval : Value.okWide Try.prog w r b0 97 v) (h : DataW.Trod enc Try.prog w base spare held 97 v d ps) (hz : w.noneFrozen ps) : ∃ l, Sl stepCA w (fun _ => True) v l := by
  obtain ⟨a, len, cap, rfl⟩ := okWide_slice Try.underlying97 hval
  obtain ⟨n, h⟩ := h
  obtain ⟨v', l, e, hs⟩ := trod_sl (c := stepCA) Try.underlying97 (by kernel_rfl) (by decide) rfl (fun _ _ _ h hz => trod_step h hz) h hz
  have : v' = .slice a len cap := by simpa [Value.cells] using e.symm
  exact ⟨l, this ▸ hs⟩
theorem open_u64s {r : Reach} {b0 : Nat} {v : Value} {d : DataW H} {ps : List MemPlace} (hval : Value.okWide Try.prog w r b0 83 v) (h : DataW.Trod enc Try.prog w base spare held 83 v d ps) (hz : w.noneFrozen ps) : ∃ l, Sl u64CA w (fun _ => True) v l := by
  obtain ⟨a, len, cap, rfl⟩ := okWide_slice Try.underlying83 hval
  obtain ⟨n, h⟩ := h
  obtain ⟨v', l, e, hs⟩ := trod_sl (c := u64CA) Try.underlying83 (by kernel_rfl) (by decide) rfl (fun _ _ _ h _ => trod_u64A h) h hz
  have : v' = .slice a len cap := by simpa [Value.cells] using e.symm
  exact ⟨l, this ▸ hs⟩
theorem open_bytess {r : Reach} {b0 : Nat} {v : Value} {d : DataW H} {ps : List MemPlace} (hval : Value.okWide Try.prog w r b0 116 v) (h : DataW.Trod enc Try.prog w base spare held 116 v d ps) (hz : w.noneFrozen ps) : ∃ l, Sl bytesCA w (fun _ => True) v l := by
  obtain ⟨a, len, cap, rfl⟩ := okWide_slice Try.underlying116 hval
  obtain ⟨n, h⟩ := h
  obtain ⟨v', l, e, hs⟩ := trod_sl (c := bytesCA) Try.underlying116 (by kernel_rfl) (by decide) rfl (fun _ cs _ h hz => (by
    obtain ⟨x, m, e, hs⟩ := trod_bytes h hz
    exact ⟨m, x, e, hs⟩)) h hz
  have : v' = .slice a len cap := by simpa [Value.cells] using e.symm
  exact ⟨l, this ▸ hs⟩
theorem open_op {r : Reach} {b0 : Nat} {v : Value} {d : DataW H} {ps : List MemPlace} (hval : Value.okWide Try.prog w r b0 112 v) (h : DataW.Trod enc Try.prog w base spare held 112 v d ps) (hz : w.noneFrozen ps) : ∃ (u x : Value) (o : OpE), v = .agg #[byteV o.kind, u, x] ∧ BsA w (fun _ => True) u o.key ∧ BsA w (fun _ => True) x o.val := by
  obtain ⟨cs, rfl, hs⟩ := okWide_struct Try.underlying112 hval
  obtain ⟨n, h⟩ := h
  obtain ⟨o, u, x, e, hu, hx⟩ := trod_op h hz
  have : cs = #[byteV o.kind, u, x] := by
    have e2 : cs.toList = [byteV o.kind, u, x] := by simpa [Value.cells] using e
    rw [← e2, Array.toArray_toList]
  exact ⟨u, x, o, by rw [this], hu, hx⟩
theorem r97 : Try.prog.readableRec 97 = true := by kernel_rfl
theorem s97 : 97 < Try.prog.types.size := of_decide_eq_true (by kernel_rfl)
theorem r83 : Try.prog.readableRec 83 = true := by kernel_rfl
theorem s83 : 83 < Try.prog.types.size := of_decide_eq_true (by kernel_rfl)
theorem r116 : Try.prog.readableRec 116 = true := by kernel_rfl
theorem s116 : 116 < Try.prog.types.size := of_decide_eq_true (by kernel_rfl)
theorem r112 : Try.prog.readableRec 112 = true := by kernel_rfl
theorem s112 : 112 < Try.prog.types.size := of_decide_eq_true (by kernel_rfl)
end
end Go.Proofs.Yteaanagljmcidaa

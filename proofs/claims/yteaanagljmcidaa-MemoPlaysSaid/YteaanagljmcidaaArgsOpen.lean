/- Arguments, as they come in, read as lists. -/
import Derived.Test.YteaanagljmcidaaMem2
import Derived.Test.YteaanagljmcidaaProg
import Derived.ProofKit
import Derived.Deep.Slices
namespace Go.Proofs.Yteaanagljmcidaa
open Go.ChangeShapes Go.WideShapes Go.ChangeAt Go.RowKit
set_option maxRecDepth 100000

section
variable {H : Type} {enc : TypeId × Value → H} {w : World} {base : Nat} {spare : Nat → Bool} {held : Bool}

theorem add2 (b off i j : Nat) : ((⟨b, off, none⟩ : Addr).add i).add j = ⟨b, off + i + j, none⟩ := by
  have h : ∀ o n : Nat, (⟨b, o, none⟩ : Addr).add n = ⟨b, o + n, none⟩ := fun o n => by unfold Addr.add; split <;> simp_all
  rw [h, h]

theorem trod_sl {α : Type} [Inhabited α] {P : Program} {c : Codec α} {t e : TypeId} {fuel : Nat} {cs : List Value} {x : DataW H × List MemPlace} (ht : P.underlying t = some (.slice e)) (hc : P.cellsOf e = c.size) (hpos : 0 < c.size) (hb : c.bound = maxLen)
    (hel : ∀ n cs y, DataW.trod enc P w base spare held n e cs = some y → w.noneFrozen y.2 → ∃ a, c.rep w (fun _ => True) cs a)
    (h : DataW.trod enc P w base spare held fuel t cs = some x) (hz : w.noneFrozen x.2) : ∃ v l, cs = [v] ∧ Sl c w (fun _ => True) v l := by
  rcases Deep.open_slice ht h with ⟨rfl, _⟩ | ⟨a, len, cap, m, n, D, Pl, rfl, _, hl, hm, hmm, hpl, hx⟩
  · exact ⟨_, [], rfl, Sl.nil _ _ _⟩
  · have hle : len ≤ m := by rw [hmm]; split <;> omega
    obtain ⟨f, hf⟩ := Deep.choose_lt (n := len) (p := fun i y => ∃ cs', w.cells? base (a.add (i * P.cellsOf e)) (P.cellsOf e) = some cs' ∧ c.rep w (fun _ => True) cs' y) (fun i hi => by
      obtain ⟨cs', h1, h2⟩ := hx i (by omega)
      obtain ⟨y, hy⟩ := hel _ _ _ h2 (fun b off hp => hz b off (by rw [hpl]; exact List.mem_append_right _ (List.mem_flatMap.2 ⟨i, List.mem_range.2 (by omega), hp⟩)))
      exact ⟨y, cs', h1, hy⟩)
    have hlen : ((List.range len).map f).length = len := by simp
    refine ⟨_, (List.range len).map f, rfl, some a, cap, by rw [hlen], by omega, hm, by rw [hlen, hb]; omega, (fun h => by cases h), fun i hi => ?_⟩
    rw [hlen] at hi
    obtain ⟨cs', h1, h2⟩ := hf i hi
    obtain ⟨b, off, sp⟩ := a
    have hsp : sp = none := by
      obtain ⟨cs0, g1, g2⟩ := hf 0 (by omega)
      obtain ⟨_, g3, g4⟩ := World.cells?_some g1
      have g5 := g4 0 (by omega)
      rw [List.getElem?_eq_getElem (by rw [c.len g2]; exact hpos)] at g5
      simpa [Addr.add] using World.cell?_spot g5
    subst hsp
    obtain ⟨_, g3, g4⟩ := World.cells?_some h1
    have hcl := c.len h2
    refine ⟨b, off, cs', rfl, trivial, ⟨fun j u hu => ?_, fun j hj => ?_⟩, by simpa using h2⟩
    rotate_left
    · refine hz b _ ?_
      rw [hpl]
      refine List.mem_append_left _ (List.mem_map.2 ⟨i * c.size + j, List.mem_range.2 ?_, ?_⟩)
      · rw [hc]
        calc i * c.size + j < i * c.size + c.size := by omega
          _ = (i + 1) * c.size := by rw [Nat.add_mul, Nat.one_mul]
          _ ≤ m * c.size := Nat.mul_le_mul_right _ (by omega)
      · simp [Nat.add_assoc]
    have hj : j < cs'.length := (List.getElem?_eq_some_iff.1 hu).1
    have g5 := g4 j (by omega)
    rw [hu, hc, add2] at g5
    exact g5

theorem trod_byte {n : Nat} {cs : List Value} {y : DataW H × List MemPlace} (h : DataW.trod enc Try.prog w base spare held n 5 cs = some y) : ∃ a, byteCA.rep w (fun _ => True) cs a := by
  obtain ⟨z, rfl, _, hw⟩ := DataW.trod_int Try.underlying5 h
  refine ⟨UInt8.ofNat z.toNat, ?_⟩
  show [Value.int .u8 z] = [byteV _]
  have h2 : (0 : Int) ≤ z ∧ z ≤ 255 := by have := hw; unfold Lit.wf at this; rw [Bool.and_eq_true, decide_eq_true_iff, decide_eq_true_iff] at this; exact this
  unfold byteV
  congr 2
  rw [UInt8.toNat_ofNat']
  omega
theorem trod_bytes {n : Nat} {cs : List Value} {y : DataW H × List MemPlace} (h : DataW.trod enc Try.prog w base spare held n 27 cs = some y) (hz : w.noneFrozen y.2) : ∃ v l, cs = [v] ∧ BsA w (fun _ => True) v l :=
  trod_sl (c := byteCA) Try.underlying27 (by kernel_rfl) (by decide) rfl (fun _ _ _ h _ => trod_byte h) h hz
theorem trod_u64 {n : Nat} {cs : List Value} {y : DataW H × List MemPlace} (h : DataW.trod enc Try.prog w base spare held n 28 cs = some y) : ∃ a : UInt64, cs = [u64V a] := by
  obtain ⟨z, rfl, _, hw⟩ := DataW.trod_int Try.underlying28 h
  refine ⟨UInt64.ofNat z.toNat, ?_⟩
  have h2 : (0 : Int) ≤ z ∧ z ≤ 18446744073709551615 := by have := hw; unfold Lit.wf at this; rw [Bool.and_eq_true, decide_eq_true_iff, decide_eq_true_iff] at this; exact this
  unfold u64V
  congr 2
  rw [UInt64.toNat_ofNat']
  omega
theorem trod_u8 {n : Nat} {cs : List Value} {y : DataW H × List MemPlace} (h : DataW.trod enc Try.prog w base spare held n 5 cs = some y) : ∃ a : UInt8, cs = [byteV a] := trod_byte h

theorem none_of {xs : List (DataW H × List MemPlace)} {y : DataW H × List MemPlace} (hy : y = (.agg (xs.map (·.1)), xs.flatMap (·.2))) (hz : w.noneFrozen y.2) {i : Nat} (hi : i < xs.length) : w.noneFrozen xs[i].2 := fun b off hp => by
  rw [hy] at hz
  exact hz b off (List.mem_flatMap.2 ⟨xs[i], List.getElem_mem hi, hp⟩)
theorem cut3 {cs : List Value} (h : cs.length = 3) : cs = (cs.drop 0).take 1 ++ ((cs.drop 1).take 1 ++ (cs.drop 2).take 1) := by
  match cs, h with
  | [a, b, c], _ => rfl
theorem cut4 {cs : List Value} (h : cs.length = 4) : cs = (cs.drop 0).take 3 ++ (cs.drop 3).take 1 := by
  match cs, h with
  | [a, b, c, d], _ => rfl
theorem cut5 {cs : List Value} (h : cs.length = 5) : cs = (cs.drop 0).take 4 ++ (cs.drop 4).take 1 := by
  match cs, h with
  | [a, b, c, d, e], _ => rfl

theorem trod_key {n : Nat} {cs : List Value} {y : DataW H × List MemPlace} (h : DataW.trod enc Try.prog w base spare held n 30 cs = some y) (hz : w.noneFrozen y.2) : ∃ a, keyCA.rep w (fun _ => True) cs a := by
  obtain ⟨xs, m, rfl, hye, hl, hs, hf⟩ := DataW.trod_struct Try.underlying30 h
  have hl3 : cs.length = 3 := hl.trans (by kernel_rfl)
  have h0 := hf 0 _ rfl
  have h1 := hf 1 _ rfl
  have h2 := hf 2 _ rfl
  rw [List.getElem?_eq_getElem (by rw [hs]; decide)] at h0 h1 h2
  obtain ⟨u, l, e0, hb⟩ := trod_bytes h0 (none_of hye hz _)
  obtain ⟨s, e1⟩ := trod_u64 h1
  obtain ⟨k, e2⟩ := trod_u8 h2
  refine ⟨⟨l, s, k⟩, u, ?_, hb⟩
  have e := cut3 hl3
  rw [e]
  have e0' : (cs.drop 0).take 1 = [u] := e0
  have e1' : (cs.drop 1).take 1 = [u64V s] := e1
  have e2' : (cs.drop 2).take 1 = [byteV k] := e2
  rw [e0', e1', e2']; rfl
theorem trod_ent {n : Nat} {cs : List Value} {y : DataW H × List MemPlace} (h : DataW.trod enc Try.prog w base spare held n 32 cs = some y) (hz : w.noneFrozen y.2) : ∃ a, entCA.rep w (fun _ => True) cs a := by
  obtain ⟨xs, m, rfl, hye, hl, hs, hf⟩ := DataW.trod_struct Try.underlying32 h
  have hl4 : cs.length = 4 := hl.trans (by kernel_rfl)
  have h0 := hf 0 _ rfl
  have h1 := hf 1 _ rfl
  rw [List.getElem?_eq_getElem (by rw [hs]; decide)] at h0 h1
  obtain ⟨k, u, e0, hb⟩ := trod_key h0 (none_of hye hz _)
  obtain ⟨v, l, e1, hc⟩ := trod_bytes h1 (none_of hye hz _)
  refine ⟨⟨k, l⟩, u, v, ?_, hb, hc⟩
  have e := cut4 hl4
  rw [e]
  have e0' : (cs.drop 0).take 3 = [u, u64V k.seq, byteV k.kind] := e0
  have e1' : (cs.drop 3).take 1 = [v] := e1
  rw [e0', e1']; rfl
theorem trod_put {n : Nat} {cs : List Value} {y : DataW H × List MemPlace} (h : DataW.trod enc Try.prog w base spare held n 34 cs = some y) (hz : w.noneFrozen y.2) : ∃ a, putCA.rep w (fun _ => True) cs a := by
  obtain ⟨xs, m, rfl, hye, hl, hs, hf⟩ := DataW.trod_struct Try.underlying34 h
  have hl5 : cs.length = 5 := hl.trans (by kernel_rfl)
  have h0 := hf 0 _ rfl
  have h1 := hf 1 _ rfl
  rw [List.getElem?_eq_getElem (by rw [hs]; decide)] at h0 h1
  obtain ⟨k, u, v, e0, hb, hc⟩ := trod_ent h0 (none_of hye hz _)
  obtain ⟨z, e1, _, hw⟩ := DataW.trod_int Try.underlying3 h1
  have h2 : (-9223372036854775808 : Int) ≤ z ∧ z ≤ 9223372036854775807 := by have := hw; unfold Lit.wf at this; rw [Bool.and_eq_true, decide_eq_true_iff, decide_eq_true_iff] at this; exact this
  refine ⟨⟨k, z⟩, u, v, ?_, hb, hc, ?_, ?_⟩
  · have e := cut5 hl5
    rw [e]
    have e0' : (cs.drop 0).take 4 = [u, u64V k.key.seq, byteV k.key.kind, v] := e0
    have e1' : (cs.drop 4).take 1 = [.int .i64 z] := e1
    rw [e0', e1']; rfl
  · show _ ≤ z; omega
  · show z ≤ _; omega

theorem open_puts {r : Reach} {b0 : Nat} {v : Value} {d : DataW H} {ps : List MemPlace} (hval : Value.okWide Try.prog w r b0 22 v) (h : DataW.Trod enc Try.prog w base spare held 22 v d ps) (hz : w.noneFrozen ps) : ∃ l, Sl putCA w (fun _ => True) v l := by
  obtain ⟨a, len, cap, rfl⟩ := okWide_slice Try.underlying22 hval
  obtain ⟨n, h⟩ := h
  obtain ⟨v', l, e, hs⟩ := trod_sl (c := putCA) Try.underlying22 (by kernel_rfl) (by decide) rfl (fun _ _ _ h hz => trod_put h hz) h hz
  have : v' = .slice a len cap := by simpa [Value.cells] using e.symm
  exact ⟨l, this ▸ hs⟩
theorem open_bytes {r : Reach} {b0 : Nat} {v : Value} {d : DataW H} {ps : List MemPlace} (hval : Value.okWide Try.prog w r b0 27 v) (h : DataW.Trod enc Try.prog w base spare held 27 v d ps) (hz : w.noneFrozen ps) : ∃ l, BsA w (fun _ => True) v l := by
  obtain ⟨a, len, cap, rfl⟩ := okWide_slice Try.underlying27 hval
  obtain ⟨n, h⟩ := h
  obtain ⟨v', l, e, hs⟩ := trod_bytes h hz
  have : v' = .slice a len cap := by simpa [Value.cells] using e.symm
  exact ⟨l, this ▸ hs⟩
theorem open_u8 {r : Reach} {b0 : Nat} {v : Value} {d : DataW H} {ps : List MemPlace} (hval : Value.okWide Try.prog w r b0 5 v) (h : DataW.Trod enc Try.prog w base spare held 5 v d ps) : ∃ a : UInt8, v = byteV a := by
  obtain ⟨z, rfl⟩ := okWide_int Try.underlying5 hval
  obtain ⟨n, h⟩ := h
  obtain ⟨a, e⟩ := trod_u8 h
  exact ⟨a, by simpa [Value.cells] using e⟩
end
end Go.Proofs.Yteaanagljmcidaa

/- A byte is written over: what was a list of bytes is one still. -/
import Derived.Test.YteaanagljmcidaaMem2
import Derived.Laws.BitsAllLaws
namespace Go.Proofs.Yteaanagljmcidaa
open Go.RowKit

theorem setCell_same {w : World} {p : Addr} {u v : Value} (h : w.cell? p = some u) : (w.setCell p v).cell? p = some v := World.cell?_setCell_same w p v (by rw [h])
theorem setCell_other {w : World} {p q : Addr} {v : Value} (h : q ≠ p) : (w.setCell p v).cell? q = w.cell? q := World.cell?_setCell_other w p q v (fun e => h e.symm)

/-- A slice of bytes, whatever bytes: n of them. -/
def BsN (w : World) (F : Nat → Prop) (v : Value) (n : Nat) : Prop := ∃ l, l.length = n ∧ Bs w F v l

theorem Sl.poke {w : World} {F : Nat → Prop} {v : Value} {l : List UInt8} (h : Bs w F v l) {p : Addr} {x : UInt8} (hp : w.cell? p = some (byteV x)) (y : UInt8) : ∃ l' : List UInt8, l'.length = l.length ∧ Bs (w.setCell p (byteV y)) F v l' := by
  obtain ⟨A, cap, hv, h1, h2, h3, h4, h5⟩ := h
  have key : ∀ i (hi : i < l.length), ∃ z : UInt8, ∃ b off cs, A = some ⟨b, off, none⟩ ∧ F b ∧ At (w.setCell p (byteV y)) b (off + i * byteC.size) cs ∧ cs = [byteV z] := fun i hi => by
    obtain ⟨b, off, cs, hA, hF, hat, hr⟩ := h5 i hi
    have hr' : cs = [byteV l[i]] := hr
    subst hr'
    have hc := hat 0 _ rfl
    by_cases he : (⟨b, off + i * byteC.size + 0, none⟩ : Addr) = p
    · refine ⟨y, b, off, [byteV y], hA, hF, ⟨fun j u hu => ?_, fun j hj => by rw [World.frozen?_setCell]; exact hat.free j (by simpa using hj)⟩, rfl⟩
      have hj : j = 0 := by
        have := (List.getElem?_eq_some_iff.1 hu).1
        simp at this; exact this
      subst hj
      rw [he, setCell_same hp]
      simpa using hu
    · refine ⟨l[i], b, off, [byteV l[i]], hA, hF, ⟨fun j u hu => ?_, fun j hj => by rw [World.frozen?_setCell]; exact hat.free j (by simpa using hj)⟩, rfl⟩
      have hj : j = 0 := by
        have := (List.getElem?_eq_some_iff.1 hu).1
        simp at this; exact this
      subst hj
      rw [setCell_other he, hc]
      simpa using hu
  have hex : ∃ f : Nat → UInt8, ∀ i, i < l.length → ∃ b off cs, A = some ⟨b, off, none⟩ ∧ F b ∧ At (w.setCell p (byteV y)) b (off + i * byteC.size) cs ∧ cs = [byteV (f i)] := by
    classical
    refine ⟨fun i => if hi : i < l.length then Classical.choose (key i hi) else 0, fun i hi => ?_⟩
    simp only [dif_pos hi]
    exact Classical.choose_spec (key i hi)
  obtain ⟨f, hf⟩ := hex
  have hlen : ((List.range l.length).map f).length = l.length := by simp
  refine ⟨(List.range l.length).map f, hlen, A, cap, by rw [hlen]; exact hv, by rw [hlen]; exact h1, h2, by rw [hlen]; exact h3, h4, fun i hi => ?_⟩
  rw [hlen] at hi
  obtain ⟨b, off, cs, hA, hF, hat, hr⟩ := hf i hi
  exact ⟨b, off, cs, hA, hF, hat, by show cs = [byteV _]; rw [hr]; simp⟩

theorem BsN.poke {w : World} {F : Nat → Prop} {v : Value} {n : Nat} (h : BsN w F v n) {p : Addr} {x : UInt8} (hp : w.cell? p = some (byteV x)) (y : UInt8) : BsN (w.setCell p (byteV y)) F v n := by
  obtain ⟨l, hl, hb⟩ := h
  obtain ⟨l', h1, h2⟩ := hb.poke hp y
  exact ⟨l', by omega, h2⟩
theorem BsN.out {w w' : World} {S F : Nat → Prop} {v : Value} {n : Nat} (h : BsN w F v n) (ho : Out S w w') (hd : ∀ b, b < w.heap.size → F b → ¬ S b) : BsN w' F v n :=
  let ⟨l, hl, hb⟩ := h; ⟨l, hl, Sl.out hb ho hd⟩
theorem BsN.ext {w w' : World} {F : Nat → Prop} {v : Value} {n : Nat} (h : BsN w F v n) (ho : Ext w w') : BsN w' F v n := h.out ho fun _ _ _ f => f
theorem BsN.mono {w : World} {F G : Nat → Prop} {v : Value} {n : Nat} (h : BsN w F v n) (hg : ∀ b, F b → b < w.heap.size → G b) : BsN w G v n :=
  let ⟨l, hl, hb⟩ := h; ⟨l, hl, Sl.mono hb hg (.inl (by decide))⟩

/-- Byte i of a slice of bytes. -/
theorem BsN.at_ {w : World} {F : Nat → Prop} {A : Option Addr} {k cap n : Nat} (h : BsN w F (.slice A k cap) n) (i : Nat) (hi : i < n) : ∃ b off x, A = some ⟨b, off, none⟩ ∧ F b ∧ w.cell? ⟨b, off + i, none⟩ = some (byteV x) ∧ w.frozen? ⟨b, off + i, none⟩ = false := by
  obtain ⟨l, hl, hb⟩ := h
  obtain ⟨b, off, cs, hA, hF, hat, hr⟩ := Sl.get hb i (by omega)
  have hr' : cs = [byteV l[i]] := hr
  subst hr'
  have h1 := hat.cell 0 _ rfl
  have h2 := hat.free 0 (by simp)
  exact ⟨b, off, l[i], hA, hF, by simpa [byteC] using h1, by simpa [byteC] using h2⟩

/-- A list of entries, or of keys, whatever stands in it: it bears such a write, where the row is not hit. -/
theorem Own.pokeE {w : World} {B : Nat} {F : Nat → Prop} {v : Value} {l : List Ent} (h : Own entC 32 w B F v l) {p : Addr} {x : UInt8} (hp : w.cell? p = some (byteV x)) (hr : v.ownBlock ≠ some p.block) (y : UInt8) : ∃ l' : List Ent, l'.length = l.length ∧ Own entC 32 (w.setCell p (byteV y)) B F v l' := by
  obtain ⟨xs, ho, he⟩ := h
  have key : ∀ i (hi : i < l.length), ∃ e : Ent, ∃ cs, (∀ j, j < entC.size → xs[i * entC.size + j]? = cs[j]?) ∧ entC.rep (w.setCell p (byteV y)) (fun b => F b ∧ v.ownBlock ≠ some b) cs e := fun i hi => by
    obtain ⟨cs, hc, u, z, h1, h2, h3⟩ := he i hi
    obtain ⟨l1, _, g1⟩ := h2.poke hp y
    obtain ⟨l2, _, g2⟩ := h3.poke hp y
    exact ⟨⟨⟨l1, l[i].key.seq, l[i].key.kind⟩, l2⟩, cs, hc, u, z, h1, g1, g2⟩
  have hex : ∃ f : Nat → Ent, ∀ i, i < l.length → ∃ cs, (∀ j, j < entC.size → xs[i * entC.size + j]? = cs[j]?) ∧ entC.rep (w.setCell p (byteV y)) (fun b => F b ∧ v.ownBlock ≠ some b) cs (f i) := by
    classical
    refine ⟨fun i => if hi : i < l.length then Classical.choose (key i hi) else default, fun i hi => ?_⟩
    simp only [dif_pos hi]
    exact Classical.choose_spec (key i hi)
  obtain ⟨f, hf⟩ := hex
  have hlen : ((List.range l.length).map f).length = l.length := by simp
  refine ⟨(List.range l.length).map f, hlen, xs, ?_, fun i hi => ?_⟩
  · rw [hlen]
    refine ⟨ho.1, ?_⟩
    rcases ho.2 with h0 | ⟨g, cap, cur, h3, h4, h5, h6⟩
    · exact .inl h0
    · refine .inr ⟨g, cap, cur, h3, h4, ?_, h6⟩
      exact (Below.heap_setCell _ _ _ _ (fun e => hr (by rw [h3, ← e]; rfl))).trans h5
  · rw [hlen] at hi
    obtain ⟨cs, hc, hr'⟩ := hf i hi
    exact ⟨cs, hc, by simpa using hr'⟩
theorem Own.pokeK {w : World} {B : Nat} {F : Nat → Prop} {v : Value} {l : List Key} (h : Own keyC 30 w B F v l) {p : Addr} {x : UInt8} (hp : w.cell? p = some (byteV x)) (hr : v.ownBlock ≠ some p.block) (y : UInt8) : ∃ l' : List Key, l'.length = l.length ∧ Own keyC 30 (w.setCell p (byteV y)) B F v l' := by
  obtain ⟨xs, ho, he⟩ := h
  have key : ∀ i (hi : i < l.length), ∃ e : Key, ∃ cs, (∀ j, j < keyC.size → xs[i * keyC.size + j]? = cs[j]?) ∧ keyC.rep (w.setCell p (byteV y)) (fun b => F b ∧ v.ownBlock ≠ some b) cs e := fun i hi => by
    obtain ⟨cs, hc, u, h1, h2⟩ := he i hi
    obtain ⟨l1, _, g1⟩ := h2.poke hp y
    exact ⟨⟨l1, l[i].seq, l[i].kind⟩, cs, hc, u, h1, g1⟩
  have hex : ∃ f : Nat → Key, ∀ i, i < l.length → ∃ cs, (∀ j, j < keyC.size → xs[i * keyC.size + j]? = cs[j]?) ∧ keyC.rep (w.setCell p (byteV y)) (fun b => F b ∧ v.ownBlock ≠ some b) cs (f i) := by
    classical
    refine ⟨fun i => if hi : i < l.length then Classical.choose (key i hi) else default, fun i hi => ?_⟩
    simp only [dif_pos hi]
    exact Classical.choose_spec (key i hi)
  obtain ⟨f, hf⟩ := hex
  have hlen : ((List.range l.length).map f).length = l.length := by simp
  refine ⟨(List.range l.length).map f, hlen, xs, ?_, fun i hi => ?_⟩
  · rw [hlen]
    refine ⟨ho.1, ?_⟩
    rcases ho.2 with h0 | ⟨g, cap, cur, h3, h4, h5, h6⟩
    · exact .inl h0
    · refine .inr ⟨g, cap, cur, h3, h4, ?_, h6⟩
      exact (Below.heap_setCell _ _ _ _ (fun e => hr (by rw [h3, ← e]; rfl))).trans h5
  · rw [hlen] at hi
    obtain ⟨cs, hc, hr'⟩ := hf i hi
    exact ⟨cs, hc, by simpa using hr'⟩

/-- Element i of an owned list of entries. -/
theorem Own.entAt {w : World} {B : Nat} {F : Nat → Prop} {v : Value} {l : List Ent} (h : Own entC 32 w B F v l) (i : Nat) (hi : i < l.length) : ∃ R cap x y, v = .slice (some ⟨R, 0, none⟩) l.length cap ∧ B ≤ R ∧ R < w.heap.size ∧
    w.cell? ⟨R, i * 4, none⟩ = some x ∧ w.cell? ⟨R, i * 4 + 1, none⟩ = some (u64V l[i].key.seq) ∧ w.cell? ⟨R, i * 4 + 2, none⟩ = some (byteV l[i].key.kind) ∧ w.cell? ⟨R, i * 4 + 3, none⟩ = some y ∧
    Bs w (fun b => F b ∧ b ≠ R) x l[i].key.user ∧ Bs w (fun b => F b ∧ b ≠ R) y l[i].value := by
  obtain ⟨xs, ho, he⟩ := h
  obtain ⟨cs', hc', x, y, rfl, hb1, hb2⟩ := he i hi
  rcases ho.2 with ⟨rfl, h0⟩ | ⟨R, cap, cur, rfl, hb, hg, hnc, _⟩
  · omega
  · have key : ∀ j u, j < 4 → [x, u64V l[i].key.seq, byteV l[i].key.kind, y][j]? = some u → w.cell? ⟨R, i * 4 + j, none⟩ = some u := by
      intro j u hj hu
      have h1 := hc' j hj
      rw [hu] at h1
      have h2 := ho.cells (g := R) rfl (i * 4 + j) u h1
      rwa [show (⟨R, 0, none⟩ : Addr).add (i * 4 + j) = ⟨R, i * 4 + j, none⟩ from by unfold Addr.add; split <;> simp_all] at h2
    exact ⟨R, cap, x, y, rfl, hb, blk_lt hg, key 0 _ (by omega) rfl, key 1 _ (by omega) rfl, key 2 _ (by omega) rfl, key 3 _ (by omega) rfl,
      hb1.mono (fun b hb _ => ⟨hb.1, fun e => hb.2 (by rw [e]; rfl)⟩) (.inl (by decide)), hb2.mono (fun b hb _ => ⟨hb.1, fun e => hb.2 (by rw [e]; rfl)⟩) (.inl (by decide))⟩
theorem Own.keyAt {w : World} {B : Nat} {F : Nat → Prop} {v : Value} {l : List Key} (h : Own keyC 30 w B F v l) (i : Nat) (hi : i < l.length) : ∃ R cap x, v = .slice (some ⟨R, 0, none⟩) l.length cap ∧ B ≤ R ∧ R < w.heap.size ∧
    w.cell? ⟨R, i * 3, none⟩ = some x ∧ w.cell? ⟨R, i * 3 + 1, none⟩ = some (u64V l[i].seq) ∧ w.cell? ⟨R, i * 3 + 2, none⟩ = some (byteV l[i].kind) ∧ Bs w (fun b => F b ∧ b ≠ R) x l[i].user := by
  obtain ⟨xs, ho, he⟩ := h
  obtain ⟨cs', hc', x, rfl, hb1⟩ := he i hi
  rcases ho.2 with ⟨rfl, h0⟩ | ⟨R, cap, cur, rfl, hb, hg, hnc, _⟩
  · omega
  · have key : ∀ j u, j < 3 → [x, u64V l[i].seq, byteV l[i].kind][j]? = some u → w.cell? ⟨R, i * 3 + j, none⟩ = some u := by
      intro j u hj hu
      have h1 := hc' j hj
      rw [hu] at h1
      have h2 := ho.cells (g := R) rfl (i * 3 + j) u h1
      rwa [show (⟨R, 0, none⟩ : Addr).add (i * 3 + j) = ⟨R, i * 3 + j, none⟩ from by unfold Addr.add; split <;> simp_all] at h2
    exact ⟨R, cap, x, rfl, hb, blk_lt hg, key 0 _ (by omega) rfl, key 1 _ (by omega) rfl, key 2 _ (by omega) rfl, hb1.mono (fun b hb _ => ⟨hb.1, fun e => hb.2 (by rw [e]; rfl)⟩) (.inl (by decide))⟩
theorem flip_u8 (x : UInt8) : bits .xor .u8 (x.toNat : Int) 1 = ((x ^^^ 1).toNat : Int) := by
  have h := u8_xor_nat x.toNat 1 x.toNat_lt (by decide)
  rw [UInt8.toNat_xor]
  exact h
end Go.Proofs.Yteaanagljmcidaa

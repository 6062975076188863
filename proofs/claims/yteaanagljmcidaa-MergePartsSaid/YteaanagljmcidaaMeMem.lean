/- merge: sources and the cursor in memory. -/
import Derived.Test.YteaanagljmcidaaMePure
import Derived.Test.YteaanagljmcidaaLists
import Derived.Test.YteaanagljmcidaaMem2
import Derived.Test.YteaanagljmcidaaPoke
import Derived.Test.YteaanagljmcidaaLight
namespace Go.Proofs.Yteaanagljmcidaa
open Go.RowKit

/-- A source: a list, and where one stands. -/
def srcC : Codec (List Ent × Int) where
  size := 2
  rep w F cs a := ∃ v, cs = [v, .int .i64 a.2] ∧ Sl entC w F v a.1
  len := fun ⟨_, h, _⟩ => by rw [h]; rfl
  one := fun ⟨u, h, hb⟩ x hx => by
    rw [h] at hx; obtain ⟨A, cap, rfl, _⟩ := hb.form
    simp only [List.mem_cons, List.not_mem_nil, or_false] at hx
    rcases hx with rfl | rfl <;> rfl
  frame := fun ⟨v, h, hb⟩ hF => ⟨v, h, hb.frame hF⟩
  mono := fun ⟨v, h, hb⟩ hF => ⟨v, h, hb.mono hF (.inl (by decide))⟩

theorem fits160 : Fits Try.prog 156 160 srcC.size 32 := fits_of Try.underlying156 (by decide) (by kernel_rfl : (Try.prog.info? 160).map (fun i => (i.zero, i.size, i.bytes)) = some (some (.agg #[.slice none 0 0, .int .i64 0]), 2, 32)) rfl

/-- Of block g cell i alone is another now; new blocks may have come. -/
structure SetAt (w w' : World) (g i : Nat) (u : Value) : Prop where
  out : Out (fun b => b = g) w w'
  blk : ∀ cs t, w.heap[g]? = some (.cells cs t) → w'.heap[g]? = some (.cells (cs.setIfInBounds i u) t)
theorem SetAt.set (w : World) (g i : Nat) (u : Value) : SetAt w (w.setCell ⟨g, i, none⟩ u) g i u :=
  ⟨(Out.refl (fun b => b = g) w).setCell (p := ⟨g, i, none⟩) (fun _ => rfl) u, fun _ _ h => blk_set h i u⟩
theorem SetAt.pre {a b c : World} {g i : Nat} {u : Value} (h : Ext a b) (k : SetAt b c g i u) : SetAt a c g i u :=
  ⟨(Ext.out h _).trans k.out, fun cs t hb => k.blk cs t (h.blk hb (fun f => f))⟩
theorem SetAt.ext {a b c : World} {g i : Nat} {u : Value} (k : SetAt a b g i u) (h : Ext b c) : SetAt a c g i u :=
  ⟨k.out.ext h, fun cs t hb => h.blk (k.blk cs t hb) (fun f => f)⟩
theorem SetAt.again {a b c : World} {g i : Nat} {u v : Value} (k : SetAt a b g i u) (h : SetAt b c g i v) : SetAt a c g i v :=
  ⟨k.out.trans h.out, fun cs t hb => by have := h.blk _ _ (k.blk cs t hb); simpa using this⟩

variable {w w' : World} {B : Nat} {F : Nat → Prop} {v : Value} {ss : List (List Ent × Int)}

/-- Source i. -/
theorem Own.srcAt (h : Own srcC 160 w B F v ss) (i : Nat) (hi : i < ss.length) : ∃ g cap cs t x, v = .slice (some ⟨g, 0, none⟩) ss.length cap ∧ w.heap[g]? = some (.cells cs t) ∧
    w.cell? ⟨g, i * 2, none⟩ = some x ∧ w.cell? ⟨g, i * 2 + 1, none⟩ = some (.int .i64 ss[i].2) ∧ (∀ j, w.frozen? ⟨g, j, none⟩ = false) ∧ Sl entC w (fun b => F b ∧ b ≠ g) x ss[i].1 := by
  obtain ⟨xs, ho, he⟩ := h
  obtain ⟨cs', hc', x, rfl, hb1⟩ := he i hi
  rcases ho.2 with ⟨rfl, h0⟩ | ⟨g, cap, cur, rfl, hb, hg, hnc, _⟩
  · omega
  · have key : ∀ j u, j < 2 → [x, .int .i64 ss[i].2][j]? = some u → w.cell? ⟨g, i * 2 + j, none⟩ = some u := by
      intro j u hj hu
      have h1 := hc' j hj
      rw [hu] at h1
      have h2 := ho.cells (g := g) rfl (i * 2 + j) u h1
      rwa [show (⟨g, 0, none⟩ : Addr).add (i * 2 + j) = ⟨g, i * 2 + j, none⟩ from by unfold Addr.add; split <;> simp_all] at h2
    exact ⟨g, cap, cur, 160, x, rfl, hg, key 0 _ (by omega) rfl, key 1 _ (by omega) rfl, blk_free hg, hb1.mono (fun b hb _ => ⟨hb.1, fun e => hb.2 (by rw [e]; rfl)⟩) (.inl (by decide))⟩

/-- One source stands elsewhere. -/
theorem Own.setAt (h : Own srcC 160 w B F v ss) {i : Nat} (hi : i < ss.length) {g : Nat} (hg : v.ownBlock = some g) {n : Int} (hs : SetAt w w' g (i * 2 + 1) (.int .i64 n)) :
    Own srcC 160 w' B F v (ss.set i (ss[i].1, n)) := by
  obtain ⟨xs, ho, he⟩ := h
  rcases ho.2 with ⟨rfl, h0⟩ | ⟨g', cap, cur, rfl, hb, hgb, hnc, hcm, hcs, htake⟩
  · omega
  · obtain rfl : g' = g := by simpa [Value.ownBlock] using hg
    have hb' := hs.blk _ _ hgb
    have hlen := ho.1
    have hl2 : cur.toList.length = cap * 2 := by rw [Array.length_toList]; exact hcs
    refine ⟨xs.set (i * 2 + 1) (.int .i64 n), ⟨by simpa using hlen, .inr ⟨g', cap, _, by rw [List.length_set], hb, hb', by rw [List.length_set]; exact hnc, hcm, by simpa using hcs, ?_⟩⟩, fun j hj => ?_⟩
    · rw [List.length_set, Array.toList_setIfInBounds, ← htake]
      apply List.ext_getElem?
      intro q
      simp only [List.getElem?_take, List.getElem?_set, List.length_take]
      have : srcC.size = 2 := rfl
      split <;> (repeat' split) <;> first | rfl | (exfalso; omega) | skip
    · simp only [List.length_set] at hj
      obtain ⟨cs, hc, x, rfl, hr⟩ := he j hj
      have hfr : Sl entC w' (fun b => F b ∧ (Value.slice (some ⟨g', 0, none⟩) ss.length cap).ownBlock ≠ some b) x ss[j].1 := hr.out hs.out fun b _ hb e => hb.2 (by rw [e]; rfl)
      by_cases hij : j = i
      · subst hij
        refine ⟨[x, .int .i64 n], fun q hq => ?_, x, by simp, by simpa using hfr⟩
        have hq' : q < 2 := hq
        have := hc q hq
        have hx : j * srcC.size + 1 < xs.length := by
          have h0 : srcC.size = 2 := rfl
          rw [h0] at hlen ⊢
          omega
        rcases (show q = 0 ∨ q = 1 by omega) with rfl | rfl
        · have h2 : (j * 2 + 1 = j * srcC.size + 0) = False := by simp [srcC]
          rw [List.getElem?_set, if_neg (by simp [srcC])]
          simpa using this
        · rw [List.getElem?_set, if_pos (by simp [srcC])]
          simp only [srcC] at hx ⊢
          simp [hx]
      · refine ⟨[x, .int .i64 ss[j].2], fun q hq => ?_, x, by rw [List.getElem_set_ne (Ne.symm hij)], by rw [List.getElem_set_ne (Ne.symm hij)]; simpa using hfr⟩
        have hq' : q < 2 := hq
        rw [List.getElem?_set, if_neg (by simp only [srcC]; omega)]
        exact hc q hq
theorem Own.len_le {α : Type} {c : Codec α} {e : TypeId} {l : List α} (h : Own c e w B F v l) : l.length ≤ maxLen := by
  obtain ⟨xs, ho, -⟩ := h
  rcases ho.2 with ⟨-, h0⟩ | ⟨g, cap, cur, -, -, -, h1, h2, -⟩
  · rw [h0]; exact Nat.zero_le _
  · exact Nat.le_trans h1 h2

/-- The cursor at C: of sources v, which stand at ss; the version u q n at which it stands, if st. -/
structure Cu (w : World) (F : Nat → Prop) (C : Nat) (v : Value) (ss : List (List Ent × Int)) (u q n : Value) (st : Bool) : Prop where
  blk : w.heap[C]? = some (.cells #[v, u, q, n, .bool st] 158)
  own : Own srcC 160 w 0 F v ss
  ne : v.ownBlock ≠ some C
  coldC : ¬ F C
  coldS : ∀ b, v.ownBlock = some b → ¬ F b
theorem Cu.frame {C : Nat} {u q n : Value} {st : Bool} {T : Nat → Prop} (h : Cu w F C v ss u q n st) (ho : Out T w w') (hC : ¬ T C) (hS : ∀ b, v.ownBlock = some b → ¬ T b) (hF : ∀ b, b < w.heap.size → F b → ¬ T b) : Cu w' F C v ss u q n st :=
  ⟨ho.blk h.blk hC, h.own.frame ho (fun b _ _ hb => hS b hb) (fun b hb hf _ => hF b hb hf), h.ne, h.coldC, h.coldS⟩
theorem Cu.ext {C : Nat} {u q n : Value} {st : Bool} (h : Cu w F C v ss u q n st) (ho : Ext w w') : Cu w' F C v ss u q n st := h.frame ho (fun f => f) (fun _ _ f => f) (fun _ _ _ f => f)
theorem cells5C {C : Nat} {u q n : Value} {st : Bool} (h : Cu w F C v ss u q n st) : w.cell? ⟨C, 0, none⟩ = some v ∧ w.cell? ⟨C, 1, none⟩ = some u ∧ w.cell? ⟨C, 2, none⟩ = some q ∧ w.cell? ⟨C, 3, none⟩ = some n ∧ w.cell? ⟨C, 4, none⟩ = some (.bool st) ∧ (∀ i, w.frozen? ⟨C, i, none⟩ = false) := cells5 h.blk
end Go.Proofs.Yteaanagljmcidaa

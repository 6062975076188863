/- law14: MergeParts. -/
import Derived.Test.YteaanagljmcidaaLawM
import Derived.Test.YteaanagljmcidaaPartsP
import Derived.Test.YteaanagljmcidaaRegB
import Derived.Laws.MakeOwn
namespace Go.Proofs.Yteaanagljmcidaa
open Go.RowKit

attribute [local go_sem ↓] Go.wp_at_zero Go.wp_at_succ

/-- Which part an entry goes into. -/
def toPart (cs : List UInt8) (i : Nat) : Nat := if h : i < cs.length then cs[i].toNat % 4 else 0
theorem toPart_lt (cs : List UInt8) (i : Nat) : toPart cs i < 4 := by
  unfold toPart; split
  · exact Nat.mod_lt _ (by decide)
  · decide

/-- Four lists in rows of their own; the slice of them at g; their bytes lie below. -/
structure Parts (w : World) (g : Nat) (vs : Nat → Value) (ps : Nat → List Ent) : Prop where
  blk : w.heap[g]? = some (.cells #[vs 0, vs 1, vs 2, vs 3] 43)
  own : ∀ k, k < 4 → Own entC 32 w (g + 1) (fun b => b < g) (vs k) (ps k)
  dis : ∀ j k, j < 4 → k < 4 → j ≠ k → ∀ b, (vs j).ownBlock = some b → (vs k).ownBlock ≠ some b
theorem Parts.ext {w w' : World} {g : Nat} {vs : Nat → Value} {ps : Nat → List Ent} (h : Parts w g vs ps) (hx : Ext w w') : Parts w' g vs ps :=
  ⟨hx.blk h.blk (fun f => f), fun k hk => (h.own k hk).ext hx, h.dis⟩
theorem Parts.cell {w : World} {g : Nat} {vs : Nat → Value} {ps : Nat → List Ent} (h : Parts w g vs ps) {k : Nat} (hk : k < 4) : w.cell? ⟨g, k, none⟩ = some (vs k) := by
  rw [blk_cell h.blk]
  rcases (show k = 0 ∨ k = 1 ∨ k = 2 ∨ k = 3 by omega) with rfl | rfl | rfl | rfl <;> rfl
theorem Parts.put {w w' : World} {g : Nat} {vs : Nat → Value} {ps : Nat → List Ent} (h : Parts w g vs ps) {k : Nat} (hk : k < 4) {v' : Value} {l' : List Ent}
    (hown : Own entC 32 w' (g + 1) (fun b => b < g) v' l') (ho : Out (fun b => (vs k).ownBlock = some b) w w') (hv : v'.ownBlock = (vs k).ownBlock ∨ v'.ownBlock = some w.heap.size) :
    Parts (w'.setCell ⟨g, k, none⟩ v') g (fun j => if j = k then v' else vs j) (fun j => if j = k then l' else ps j) := by
  have hs : Out (fun b => b = g) w' (w'.setCell ⟨g, k, none⟩ v') := (Out.refl (fun b => b = g) w').setCell (p := ⟨g, k, none⟩) (fun _ => rfl) _
  have hng : ∀ j, j < 4 → ∀ b, (vs j).ownBlock = some b → g < b ∧ b < w.heap.size := fun j hj b e => by have := (h.own j hj).lt b e; omega
  have hb := blk_set (ho.blk h.blk (fun e => by have := hng k hk g e; omega)) k v'
  refine ⟨?_, fun j hj => ?_, fun i j hi hj hij b hib hjb => ?_⟩
  · rw [hb]
    rcases (show k = 0 ∨ k = 1 ∨ k = 2 ∨ k = 3 by omega) with rfl | rfl | rfl | rfl <;> simp
  · by_cases e : j = k
    · simp only [if_pos e]
      exact hown.frame hs (fun b _ hb _ hbg => by omega) (fun b _ hb _ hbg => by omega)
    · simp only [if_neg e]
      have h1 := (h.own j hj).frame ho (fun b _ hb hj2 hk2 => h.dis j k hj hk e b hj2 hk2) (fun b _ hb _ hk2 => by have := hng k hk b hk2; omega)
      exact h1.frame hs (fun b _ hb _ hbg => by omega) (fun b _ hb _ hbg => by omega)
  · have key : ∀ a, a < 4 → a ≠ k → ∀ b, (vs a).ownBlock = some b → v'.ownBlock ≠ some b := fun a ha hak b e1 e2 => by
      rcases hv with e | e
      · exact h.dis a k ha hk hak b e1 (e ▸ e2)
      · rw [e] at e2; injection e2 with e2; have := (hng a ha b e1).2; omega
    by_cases e1 : i = k
    · simp only [if_pos e1] at hib
      have e2 : j ≠ k := fun e => hij (by rw [e1, e])
      simp only [if_neg e2] at hjb
      exact key j hj e2 b hjb hib
    · simp only [if_neg e1] at hib
      by_cases e2 : j = k
      · simp only [if_pos e2] at hjb
        exact key i hi e1 b hib hjb
      · simp only [if_neg e2] at hjb
        exact h.dis i j hi hj hij b hib hjb
/-- The four as a list of lists. -/
theorem Parts.sl {w : World} {g : Nat} {vs : Nat → Value} {ps : Nat → List Ent} (h : Parts w g vs ps) (hl : ∀ k, (ps k).length ≤ 1000) : Sl lstC w (fun _ => True) (.slice (some ⟨g, 0, none⟩) 4 4) [ps 0, ps 1, ps 2, ps 3] := by
  have hs : ∀ k, k < 4 → Sl entC w (fun _ => True) (vs k) (ps k) := fun k hk => (h.own k hk).sl (by decide) (by have := hl k; show _ ≤ 140737488355328; omega) (fun _ _ _ => trivial) (fun _ _ _ => trivial)
  refine ⟨_, 4, rfl, by simp, by unfold maxLen; omega, by show 4 ≤ 140737488355328; omega, (fun h => by cases h), fun i hi => ?_⟩
  have hi4 : i < 4 := hi
  refine ⟨g, 0, [vs i], rfl, trivial, ⟨fun j u hu => ?_, fun j _ => blk_free h.blk _⟩, ?_⟩
  · have hj : j = 0 := by have := (List.getElem?_eq_some_iff.1 hu).1; simpa using this
    subst hj
    have := h.cell hi4
    simp only [slC, Nat.mul_one, Nat.zero_add, Nat.add_zero]
    rw [this]; simpa using hu
  · rcases (show i = 0 ∨ i = 1 ∨ i = 2 ∨ i = 3 by omega) with rfl | rfl | rfl | rfl
    · exact ⟨_, rfl, hs 0 (by omega)⟩
    · exact ⟨_, rfl, hs 1 (by omega)⟩
    · exact ⟨_, rfl, hs 2 (by omega)⟩
    · exact ⟨_, rfl, hs 3 (by omega)⟩

set_option maxRecDepth 100000 in
set_option maxHeartbeats 4000000 in
theorem mergeParts_walk (w : World) {F G : Nat → Prop} {x y : Value} (l : List Ent) (hx : Sl entCA w F x l) (cs : List UInt8) (hy : BsA w G y cs) : Calls Try.prog 11 #[x, y] w fun e w' => e = .returned (.bool true) ∧ Ext w w' := by
  obtain ⟨A, N, n, rfl⟩ := hx.form0
  obtain ⟨Y, yc, rfl, -, -, hy3, -⟩ := hy.form
  have hy3 : cs.length ≤ 9223372036854775807 := hy3
  have Hx := Lib.hid hx
  have Hy := Lib.hid hy
  clear hx hy
  have hmk : ∀ w, (Instr.makeSlice 62 (.int .i64 4) (.int .i64 4)).run Try.prog w = .ok (.slice (some ⟨w.heap.size, 0, none⟩) 4 4) (w.alloc (.cells #[.slice none 0 0, .slice none 0 0, .slice none 0 0, .slice none 0 0] 43)) := fun _ => by kernel_rfl
  go_enter Try.func11, Try.ntmps11
  go_wp2_with (first
    | (go_at_call 44; refine (law14_awake _).mono ?_; rintro r w1 ⟨rfl, hx1⟩; have HX1 := Lib.hid hx1; clear hx1)
    | (go_at_call 59; refine (r3_few _ l (Hx.out.ext HX1.out) 40 (by decide)).mono ?_; rintro e w2 ⟨x2, rfl, hx2, hl2⟩; have HX2 := Lib.hid (HX1.out.ext hx2); have HL2 := Lib.hid hl2; obtain ⟨A2, k2, m2, rfl⟩ := hl2.form0; clear hx2 hl2)
    | (go_at_call 58; refine (r12_sort _ _ HL2.out (by rw [List.length_map, List.length_take]; omega)).mono ?_; rintro e w3 ⟨x3, rfl, hx3, hl3⟩; have HX3 := Lib.hid (HX2.out.ext hx3 : Ext w w3); have HL3 := Lib.hid (hl3.belowM (by decide)); have HSo := Lib.hid (sortE_sorted ((l.take 40).map cutE)); have HLe : Hid ((sortE ((l.take 40).map cutE)).length ≤ 40) := Lib.hid (Nat.le_trans (sortE_length _) (by rw [List.length_map, List.length_take]; omega)); obtain ⟨A3, N3, m3, rfl⟩ := hl3.form0; clear hx3 hl3))
  have HSb := Lib.hid (HL3.out.mono (G := fun b => b < w3.heap.size) (fun b hb _ => hb.2) (.inl (by decide)))
  generalize sortE ((l.take 40).map cutE) = S at *
  have hn3 : N3 = S.length := by obtain ⟨_, _, e, -⟩ := HSb.out.form; injection e
  subst hn3
  have hS40 : S.length ≤ 40 := HLe.out
  clear HL3 HL2
  have HP0 : Hid (Parts (w3.alloc (.cells #[.slice none 0 0, .slice none 0 0, .slice none 0 0, .slice none 0 0] 43)) w3.heap.size (fun _ => .slice none 0 0) (part S (toPart cs) 0)) := Lib.hid ⟨blk_new _ _, fun k hk => Own.nil _ _ _ _ _, fun j k _ _ _ b e => by simp [Value.ownBlock] at e⟩
  go_loopw [19] (fun s19 wr => ∃ (i : Nat) (vs : Nat → Value), i ≤ S.length ∧ s19 = .int .i64 i ∧ Ext w3 wr ∧ Parts wr w3.heap.size vs (part S (toPart cs) i)) (fun s19 _ => S.length - (intOf s19).toNat)
  case atStart => exact ⟨0, _, Nat.zero_le _, rfl, Ext.alloc1 _ _, HP0.out⟩
  case round =>
    obtain ⟨wo, rfl⟩ : ∃ x : World, x = wr := ⟨_, rfl⟩
    obtain ⟨i, vs, hi, rfl, hxo, hpo⟩ := hrel
    have HXo := Lib.hid hxo
    have HPo := Lib.hid hpo
    have hgs : w3.heap.size < wo.heap.size := blk_lt hpo.blk
    clear hxo hpo
    by_cases hlt : i < S.length
    · obtain ⟨b1, o1, u1, v1, hA1, -, e0, e1, e2, e3, hu, hv⟩ := (HSb.out.ext HXo.out).ent i hlt
      subst hA1
      obtain ⟨U, N1, n1, rfl⟩ := hu.form0
      obtain ⟨V, N2, n2, rfl⟩ := hv.form0
      have x1 := Ext.alloc1 wo (.cells #[.slice U N1 n1, u64V S[i].key.seq, byteV S[i].key.kind, .slice V N2 n2] 32)
      obtain ⟨z0, z1, z2, z3, -⟩ := cells4 (blk_new wo (.cells #[.slice U N1 n1, u64V S[i].key.seq, byteV S[i].key.kind, .slice V N2 n2] 32))
      have HX1 := Lib.hid (HXo.out.ext x1)
      have HP1 := Lib.hid (HPo.out.ext x1)
      have Hu := Lib.hid (hu.ext x1)
      have Hv := Lib.hid (hv.ext x1)
      have hk4 := toPart_lt cs i
      have HK : Hid ((fun j => if j = toPart cs i then part S (toPart cs) i (toPart cs i) ++ [S[i]] else part S (toPart cs) i j) = part S (toPart cs) (i + 1)) := Lib.hid (by
        funext j
        rw [part, dif_pos hlt]
        by_cases e : toPart cs i = j
        · subst e; simp
        · rw [if_neg e, if_neg (fun h => e h.symm)])
      clear hu hv x1
      by_cases hc : i < cs.length
      · obtain ⟨b2, o2, cs2, hY, -, hat, hr2⟩ := Sl.get (((Hy.out.ext HX3.out).ext HX1.out)) i hc
        have hr2' : cs2 = [byteV cs[i]] := hr2
        subst hY hr2'
        have hc2 := hat.cell 0 _ rfl
        simp only [byteCA, byteC, Nat.mul_one, Nat.add_zero] at hc2
        have hkv : ((cs[i].toNat : Int)) % 4 = (toPart cs i : Int) := by unfold toPart; rw [dif_pos hc]; omega
        generalize hkk : toPart cs i = k at *
        clear hkk hat
        have hw0 : (0 : Int) ≤ (k : Int) ∧ (k : Int) < 4 := by omega
        obtain ⟨Ak, Nk, ck, hvk⟩ := (HP1.out.own k hk4).form0
        have hck := HP1.out.cell hk4
        rw [hvk] at hck
        have HVk := Lib.hid hvk
        have hownk := HP1.out.own k hk4
        rw [hvk] at hownk
        have HOk := Lib.hid hownk
        have hlk := (HPo.out.own k hk4).lt
        rw [hvk] at hlk
        have HLk := Lib.hid hlk
        clear hownk hvk hlk
        go_wp2
        refine region_B 10 (fun w' => w'.cell? ⟨w3.heap.size, k, none⟩ = some (.slice Ak Nk ck) ∧ w'.cell? ⟨wo.heap.size, 0, none⟩ = some (.slice U N1 n1) ∧ w'.cell? ⟨wo.heap.size, 1, none⟩ = some (u64V S[i].key.seq) ∧ w'.cell? ⟨wo.heap.size, 2, none⟩ = some (byteV S[i].key.kind) ∧ w'.cell? ⟨wo.heap.size, 3, none⟩ = some (.slice V N2 n2)) (by kernel_rfl) ?q11_11S (fun hHeld0 => ?_)
        case q11_11S => ((first | go_keep | ((try dsimp only); exact ⟨by assumption, by assumption, by assumption, by assumption, by assumption⟩)))
        refine anyB_take (i := 0) (oi := _) (v := ?q11_11v1) rfl (by kernel_rfl) (by kernel_rfl) (by kernel_rfl) (by kernel_rfl) (fun _ _ _ h => h) (Or.inl ⟨by rfl, ?q11_11h1⟩) (by assumption) ?q11_11r1
        case q11_11h1 => (intro w hSw; (try dsimp only at hSw); go_simp; try with_reducible rfl)
        (try simp only [List.getElem_toArray, List.getElem_cons_succ, List.getElem_cons_zero, Act.put, List.setIfInBounds_toArray, List.set_cons_zero, List.set_cons_succ])
        refine anyB_take (i := 1) (oi := _) (v := ?q11_11v2) rfl (by kernel_rfl) (by kernel_rfl) (by kernel_rfl) (by kernel_rfl) (fun _ _ _ h => h) (Or.inl ⟨by rfl, ?q11_11h2⟩) (by assumption) ?q11_11r2
        case q11_11h2 => (intro w hSw; (try dsimp only at hSw); go_simp; try with_reducible rfl)
        (try simp only [List.getElem_toArray, List.getElem_cons_succ, List.getElem_cons_zero, Act.put, List.setIfInBounds_toArray, List.set_cons_zero, List.set_cons_succ])
        refine anyB_take (i := 2) (oi := _) (v := ?q11_11v3) rfl (by kernel_rfl) (by kernel_rfl) (by kernel_rfl) (by kernel_rfl) (fun _ _ _ h => h) (Or.inl ⟨by rfl, ?q11_11h3⟩) (by assumption) ?q11_11r3
        case q11_11h3 => (intro w hSw; (try dsimp only at hSw); go_simp; try with_reducible rfl)
        (try simp only [List.getElem_toArray, List.getElem_cons_succ, List.getElem_cons_zero, Act.put, List.setIfInBounds_toArray, List.set_cons_zero, List.set_cons_succ])
        refine anyB_take (i := 3) (oi := _) (v := ?q11_11v4) rfl (by kernel_rfl) (by kernel_rfl) (by kernel_rfl) (by kernel_rfl) (fun _ _ _ h => h) (Or.inl ⟨by rfl, ?q11_11h4⟩) (by assumption) ?q11_11r4
        case q11_11h4 => (intro w hSw; (try dsimp only at hSw); go_simp; try with_reducible rfl)
        (try simp only [List.getElem_toArray, List.getElem_cons_succ, List.getElem_cons_zero, Act.put, List.setIfInBounds_toArray, List.set_cons_zero, List.set_cons_succ])
        refine anyB_take (i := 4) (oi := _) (v := ?q11_11v5) rfl (by kernel_rfl) (by kernel_rfl) (by kernel_rfl) (by kernel_rfl) (fun _ _ _ h => h) (Or.inl ⟨by rfl, ?q11_11h5⟩) (by assumption) ?q11_11r5
        case q11_11h5 => (intro w hSw; (try dsimp only at hSw); go_simp; try with_reducible rfl)
        (try simp only [List.getElem_toArray, List.getElem_cons_succ, List.getElem_cons_zero, Act.put, List.setIfInBounds_toArray, List.set_cons_zero, List.set_cons_succ])
        refine anyB_take (i := 5) (oi := _) (v := ?q11_11v6) rfl (by kernel_rfl) (by kernel_rfl) (by kernel_rfl) (by kernel_rfl) (fun _ _ _ h => h) (Or.inl ⟨by rfl, ?q11_11h6⟩) (by assumption) ?q11_11r6
        case q11_11h6 => (intro w hSw; (try dsimp only at hSw); go_simp; try with_reducible rfl)
        (try simp only [List.getElem_toArray, List.getElem_cons_succ, List.getElem_cons_zero, Act.put, List.setIfInBounds_toArray, List.set_cons_zero, List.set_cons_succ])
        refine anyB_take (i := 6) (oi := _) (v := ?q11_11v7) rfl (by kernel_rfl) (by kernel_rfl) (by kernel_rfl) (by kernel_rfl) (fun _ _ _ h => h) (Or.inl ⟨by rfl, ?q11_11h7⟩) (by assumption) ?q11_11r7
        case q11_11h7 => (intro w hSw; (try dsimp only at hSw); go_simp; try with_reducible rfl)
        (try simp only [List.getElem_toArray, List.getElem_cons_succ, List.getElem_cons_zero, Act.put, List.setIfInBounds_toArray, List.set_cons_zero, List.set_cons_succ])
        refine anyB_step (i := 7) (o := _) (by kernel_rfl) (by rfl) (by (simp only [List.getElem?_toArray, List.getElem?_cons_succ, List.getElem?_cons_zero] <;> rfl)) (fun K hK => ?_)
        go_simp
        refine hK.out _ _ ?q11_11S8 (fun hHeld1 => ?_)
        case q11_11S8 => ((first | go_keep | ((try dsimp only); exact ⟨by assumption, by assumption, by assumption, by assumption, by assumption⟩)))
        clear hK K hHeld0
        (try simp only [List.getElem_toArray, List.getElem_cons_succ, List.getElem_cons_zero, Act.put, List.setIfInBounds_toArray, List.set_cons_zero, List.set_cons_succ])
        refine anyB_step (i := 8) (o := _) (by kernel_rfl) (by rfl) (by (simp only [List.getElem?_toArray, List.getElem?_cons_succ, List.getElem?_cons_zero] <;> rfl)) (fun K hK => ?_)
        refine step_append_one (by rfl) (.tmp 39) (.tmp 41) 43 (by rfl) fits32 (HOk.out.ext (by repeat' (first | exact Out.refl _ _ | refine Out.drew ?_ | refine Out.alloc ?_ _))) (by rfl) (by simp <;> omega) (blk_atD (n := wo.heap.size + 1) (by simp)) (by rfl) S[i] ⟨_, _, rfl, (Hu.out.ext (by repeat' (first | exact Out.refl _ _ | refine Out.drew ?_ | refine Out.alloc ?_ _))).mono (fun b hb _ => ⟨hb, (fun e => by have := (HLk.out b e).1; omega)⟩) (.inl (by decide)), (Hv.out.ext (by repeat' (first | exact Out.refl _ _ | refine Out.drew ?_ | refine Out.alloc ?_ _))).mono (fun b hb _ => ⟨hb, (fun e => by have := (HLk.out b e).1; omega)⟩) (.inl (by decide))⟩ (by have := part_le S (toPart cs) i k; omega) (by decide) ?_; intro v9 w9 g1 g2 g3; obtain ⟨A9, k9, m9, rfl⟩ := g1.form0; have G1 := Lib.hid g1; have G2 := Lib.hid g2; have G3 := Lib.hid g3; have HPW := Lib.hid (HP1.out.ext (show Ext (wo.alloc (.cells #[.slice U N1 n1, u64V S[i].key.seq, byteV S[i].key.kind, .slice V N2 n2] 32)) (((wo.alloc (.cells #[.slice U N1 n1, u64V S[i].key.seq, byteV S[i].key.kind, .slice V N2 n2] 32)).alloc (.cells #[.slice U N1 n1, u64V S[i].key.seq, byteV S[i].key.kind, .slice V N2 n2] 32)).drew) from (Out.alloc (Out.refl _ _) _).drew)); have HX9 : Hid (Ext w3 w9) := Lib.hid (Out.then (Out.ext (Ext.out HX1.out _) (by repeat' (first | exact Out.refl _ _ | refine Out.drew ?_ | refine Out.alloc ?_ _))) g2 (fun b hb e => by have := (HLk.out b e).1; omega)); obtain ⟨x0, x1, x2, x3, -⟩ := cells4 (g2.blk (o := (.cells #[.slice U N1 n1, u64V S[i].key.seq, byteV S[i].key.kind, .slice V N2 n2] 32)) (g := wo.heap.size) (show (World.drew _).heap[_]? = _ from blk_alloc (blk_new _ _) _) (fun e => by have := (HLk.out _ e).2; omega)); have yk := g2.cell (show (World.drew _).cell? ⟨w3.heap.size, k, none⟩ = _ from cell_alloc hck _) (fun e => by have := (HLk.out w3.heap.size e).1; omega); have yf : ∀ j, w9.frozen? ⟨w3.heap.size, j, none⟩ = false := blk_free (g2.blk (show (World.drew _).heap[_]? = _ from blk_alloc HP1.out.blk _) (fun e => by have := (HLk.out _ e).1; omega)); clear g1 g2 g3
        refine hK.out _ _ ?q11_11S9 (fun hHeld2 => ?_)
        case q11_11S9 => ((first | go_keep | ((try dsimp only); exact ⟨by assumption, by assumption, by assumption, by assumption, by assumption⟩)))
        clear hK K hHeld1
        (try simp only [List.getElem_toArray, List.getElem_cons_succ, List.getElem_cons_zero, Act.put, List.setIfInBounds_toArray, List.set_cons_zero, List.set_cons_succ])
        refine anyB_take (i := 9) (oi := _) (v := ?q11_11v10) rfl (by kernel_rfl) (by kernel_rfl) (by kernel_rfl) (by kernel_rfl) (fun _ _ _ h => h) (Or.inl ⟨by rfl, ?q11_11h10⟩) (by assumption) ?q11_11r10
        case q11_11h10 => (intro w hSw; (try dsimp only at hSw); go_simp; try with_reducible rfl)
        (try simp only [List.getElem_toArray, List.getElem_cons_succ, List.getElem_cons_zero, Act.put, List.setIfInBounds_toArray, List.set_cons_zero, List.set_cons_succ])
        refine anyB_last (i := 10) (o := _) (by kernel_rfl) (by rfl) (by (simp only [List.getElem?_toArray, List.getElem?_cons_succ, List.getElem?_cons_zero] <;> rfl)) (fun K hK => ?_)
        go_simp
        refine hK.out _ _ ?_
        clear hK K
        (try simp only [List.getElem_toArray, List.getElem_cons_succ, List.getElem_cons_zero, Act.put, List.setIfInBounds_toArray, List.set_cons_zero, List.set_cons_succ])
        refine anyB_done (by kernel_rfl) ?_ _
        go_wp2
        go_roundw
        case rel => exact ⟨i + 1, _, by omega, by go_num, Out.then HX9.out ((Out.refl (fun b => b = w3.heap.size) w9).setCell (p := ⟨w3.heap.size, k, none⟩) (fun _ => rfl) _) (fun b hb e => by omega), by rw [← HK.out]; exact (Parts.put HPW.out hk4 G1.out (by rw [HVk.out]; exact G2.out) (by rw [HVk.out]; exact G3.out))⟩
        case measure => simp [intOf]; omega
      · have hk0 : toPart cs i = 0 := by unfold toPart; rw [dif_neg hc]
        rw [hk0] at hk4 HK
        clear hk0
        obtain ⟨Ak, Nk, ck, hvk⟩ := (HP1.out.own 0 hk4).form0
        have hck := HP1.out.cell hk4
        rw [hvk] at hck
        have HVk := Lib.hid hvk
        have hownk := HP1.out.own 0 hk4
        rw [hvk] at hownk
        have HOk := Lib.hid hownk
        have hlk := (HPo.out.own 0 hk4).lt
        rw [hvk] at hlk
        have HLk := Lib.hid hlk
        clear hownk hvk hlk
        go_wp2
        refine region_B 10 (fun w' => w'.cell? ⟨w3.heap.size, 0, none⟩ = some (.slice Ak Nk ck) ∧ w'.cell? ⟨wo.heap.size, 0, none⟩ = some (.slice U N1 n1) ∧ w'.cell? ⟨wo.heap.size, 1, none⟩ = some (u64V S[i].key.seq) ∧ w'.cell? ⟨wo.heap.size, 2, none⟩ = some (byteV S[i].key.kind) ∧ w'.cell? ⟨wo.heap.size, 3, none⟩ = some (.slice V N2 n2)) (by kernel_rfl) ?q11_11b1S (fun hHeld0 => ?_)
        case q11_11b1S => ((first | go_keep | ((try dsimp only); exact ⟨by assumption, by assumption, by assumption, by assumption, by assumption⟩)))
        refine anyB_take (i := 0) (oi := _) (v := ?q11_11b1v1) rfl (by kernel_rfl) (by kernel_rfl) (by kernel_rfl) (by kernel_rfl) (fun _ _ _ h => h) (Or.inl ⟨by rfl, ?q11_11b1h1⟩) (by assumption) ?q11_11b1r1
        case q11_11b1h1 => (intro w hSw; (try dsimp only at hSw); go_simp; try with_reducible rfl)
        (try simp only [List.getElem_toArray, List.getElem_cons_succ, List.getElem_cons_zero, Act.put, List.setIfInBounds_toArray, List.set_cons_zero, List.set_cons_succ])
        refine anyB_take (i := 1) (oi := _) (v := ?q11_11b1v2) rfl (by kernel_rfl) (by kernel_rfl) (by kernel_rfl) (by kernel_rfl) (fun _ _ _ h => h) (Or.inl ⟨by rfl, ?q11_11b1h2⟩) (by assumption) ?q11_11b1r2
        case q11_11b1h2 => (intro w hSw; (try dsimp only at hSw); go_simp; try with_reducible rfl)
        (try simp only [List.getElem_toArray, List.getElem_cons_succ, List.getElem_cons_zero, Act.put, List.setIfInBounds_toArray, List.set_cons_zero, List.set_cons_succ])
        refine anyB_take (i := 2) (oi := _) (v := ?q11_11b1v3) rfl (by kernel_rfl) (by kernel_rfl) (by kernel_rfl) (by kernel_rfl) (fun _ _ _ h => h) (Or.inl ⟨by rfl, ?q11_11b1h3⟩) (by assumption) ?q11_11b1r3
        case q11_11b1h3 => (intro w hSw; (try dsimp only at hSw); go_simp; try with_reducible rfl)
        (try simp only [List.getElem_toArray, List.getElem_cons_succ, List.getElem_cons_zero, Act.put, List.setIfInBounds_toArray, List.set_cons_zero, List.set_cons_succ])
        refine anyB_take (i := 3) (oi := _) (v := ?q11_11b1v4) rfl (by kernel_rfl) (by kernel_rfl) (by kernel_rfl) (by kernel_rfl) (fun _ _ _ h => h) (Or.inl ⟨by rfl, ?q11_11b1h4⟩) (by assumption) ?q11_11b1r4
        case q11_11b1h4 => (intro w hSw; (try dsimp only at hSw); go_simp; try with_reducible rfl)
        (try simp only [List.getElem_toArray, List.getElem_cons_succ, List.getElem_cons_zero, Act.put, List.setIfInBounds_toArray, List.set_cons_zero, List.set_cons_succ])
        refine anyB_take (i := 4) (oi := _) (v := ?q11_11b1v5) rfl (by kernel_rfl) (by kernel_rfl) (by kernel_rfl) (by kernel_rfl) (fun _ _ _ h => h) (Or.inl ⟨by rfl, ?q11_11b1h5⟩) (by assumption) ?q11_11b1r5
        case q11_11b1h5 => (intro w hSw; (try dsimp only at hSw); go_simp; try with_reducible rfl)
        (try simp only [List.getElem_toArray, List.getElem_cons_succ, List.getElem_cons_zero, Act.put, List.setIfInBounds_toArray, List.set_cons_zero, List.set_cons_succ])
        refine anyB_take (i := 5) (oi := _) (v := ?q11_11b1v6) rfl (by kernel_rfl) (by kernel_rfl) (by kernel_rfl) (by kernel_rfl) (fun _ _ _ h => h) (Or.inl ⟨by rfl, ?q11_11b1h6⟩) (by assumption) ?q11_11b1r6
        case q11_11b1h6 => (intro w hSw; (try dsimp only at hSw); go_simp; try with_reducible rfl)
        (try simp only [List.getElem_toArray, List.getElem_cons_succ, List.getElem_cons_zero, Act.put, List.setIfInBounds_toArray, List.set_cons_zero, List.set_cons_succ])
        refine anyB_take (i := 6) (oi := _) (v := ?q11_11b1v7) rfl (by kernel_rfl) (by kernel_rfl) (by kernel_rfl) (by kernel_rfl) (fun _ _ _ h => h) (Or.inl ⟨by rfl, ?q11_11b1h7⟩) (by assumption) ?q11_11b1r7
        case q11_11b1h7 => (intro w hSw; (try dsimp only at hSw); go_simp; try with_reducible rfl)
        (try simp only [List.getElem_toArray, List.getElem_cons_succ, List.getElem_cons_zero, Act.put, List.setIfInBounds_toArray, List.set_cons_zero, List.set_cons_succ])
        refine anyB_step (i := 7) (o := _) (by kernel_rfl) (by rfl) (by (simp only [List.getElem?_toArray, List.getElem?_cons_succ, List.getElem?_cons_zero] <;> rfl)) (fun K hK => ?_)
        go_simp
        refine hK.out _ _ ?q11_11b1S8 (fun hHeld1 => ?_)
        case q11_11b1S8 => ((first | go_keep | ((try dsimp only); exact ⟨by assumption, by assumption, by assumption, by assumption, by assumption⟩)))
        clear hK K hHeld0
        (try simp only [List.getElem_toArray, List.getElem_cons_succ, List.getElem_cons_zero, Act.put, List.setIfInBounds_toArray, List.set_cons_zero, List.set_cons_succ])
        refine anyB_step (i := 8) (o := _) (by kernel_rfl) (by rfl) (by (simp only [List.getElem?_toArray, List.getElem?_cons_succ, List.getElem?_cons_zero] <;> rfl)) (fun K hK => ?_)
        refine step_append_one (by rfl) (.tmp 39) (.tmp 41) 43 (by rfl) fits32 (HOk.out.ext (by repeat' (first | exact Out.refl _ _ | refine Out.drew ?_ | refine Out.alloc ?_ _))) (by rfl) (by simp <;> omega) (blk_atD (n := wo.heap.size + 1) (by simp)) (by rfl) S[i] ⟨_, _, rfl, (Hu.out.ext (by repeat' (first | exact Out.refl _ _ | refine Out.drew ?_ | refine Out.alloc ?_ _))).mono (fun b hb _ => ⟨hb, (fun e => by have := (HLk.out b e).1; omega)⟩) (.inl (by decide)), (Hv.out.ext (by repeat' (first | exact Out.refl _ _ | refine Out.drew ?_ | refine Out.alloc ?_ _))).mono (fun b hb _ => ⟨hb, (fun e => by have := (HLk.out b e).1; omega)⟩) (.inl (by decide))⟩ (by have := part_le S (toPart cs) i 0; omega) (by decide) ?_; intro v9 w9 g1 g2 g3; obtain ⟨A9, k9, m9, rfl⟩ := g1.form0; have G1 := Lib.hid g1; have G2 := Lib.hid g2; have G3 := Lib.hid g3; have HPW := Lib.hid (HP1.out.ext (show Ext (wo.alloc (.cells #[.slice U N1 n1, u64V S[i].key.seq, byteV S[i].key.kind, .slice V N2 n2] 32)) (((wo.alloc (.cells #[.slice U N1 n1, u64V S[i].key.seq, byteV S[i].key.kind, .slice V N2 n2] 32)).alloc (.cells #[.slice U N1 n1, u64V S[i].key.seq, byteV S[i].key.kind, .slice V N2 n2] 32)).drew) from (Out.alloc (Out.refl _ _) _).drew)); have HX9 : Hid (Ext w3 w9) := Lib.hid (Out.then (Out.ext (Ext.out HX1.out _) (by repeat' (first | exact Out.refl _ _ | refine Out.drew ?_ | refine Out.alloc ?_ _))) g2 (fun b hb e => by have := (HLk.out b e).1; omega)); obtain ⟨x0, x1, x2, x3, -⟩ := cells4 (g2.blk (o := (.cells #[.slice U N1 n1, u64V S[i].key.seq, byteV S[i].key.kind, .slice V N2 n2] 32)) (g := wo.heap.size) (show (World.drew _).heap[_]? = _ from blk_alloc (blk_new _ _) _) (fun e => by have := (HLk.out _ e).2; omega)); have yk := g2.cell (show (World.drew _).cell? ⟨w3.heap.size, 0, none⟩ = _ from cell_alloc hck _) (fun e => by have := (HLk.out w3.heap.size e).1; omega); have yf : ∀ j, w9.frozen? ⟨w3.heap.size, j, none⟩ = false := blk_free (g2.blk (show (World.drew _).heap[_]? = _ from blk_alloc HP1.out.blk _) (fun e => by have := (HLk.out _ e).1; omega)); clear g1 g2 g3
        refine hK.out _ _ ?q11_11b1S9 (fun hHeld2 => ?_)
        case q11_11b1S9 => ((first | go_keep | ((try dsimp only); exact ⟨by assumption, by assumption, by assumption, by assumption, by assumption⟩)))
        clear hK K hHeld1
        (try simp only [List.getElem_toArray, List.getElem_cons_succ, List.getElem_cons_zero, Act.put, List.setIfInBounds_toArray, List.set_cons_zero, List.set_cons_succ])
        refine anyB_take (i := 9) (oi := _) (v := ?q11_11b1v10) rfl (by kernel_rfl) (by kernel_rfl) (by kernel_rfl) (by kernel_rfl) (fun _ _ _ h => h) (Or.inl ⟨by rfl, ?q11_11b1h10⟩) (by assumption) ?q11_11b1r10
        case q11_11b1h10 => (intro w hSw; (try dsimp only at hSw); go_simp; try with_reducible rfl)
        (try simp only [List.getElem_toArray, List.getElem_cons_succ, List.getElem_cons_zero, Act.put, List.setIfInBounds_toArray, List.set_cons_zero, List.set_cons_succ])
        refine anyB_last (i := 10) (o := _) (by kernel_rfl) (by rfl) (by (simp only [List.getElem?_toArray, List.getElem?_cons_succ, List.getElem?_cons_zero] <;> rfl)) (fun K hK => ?_)
        go_simp
        refine hK.out _ _ ?_
        clear hK K
        (try simp only [List.getElem_toArray, List.getElem_cons_succ, List.getElem_cons_zero, Act.put, List.setIfInBounds_toArray, List.set_cons_zero, List.set_cons_succ])
        refine anyB_done (by kernel_rfl) ?_ _
        go_wp2
        go_roundw
        case rel => exact ⟨i + 1, _, by omega, by go_num, Out.then HX9.out ((Out.refl (fun b => b = w3.heap.size) w9).setCell (p := ⟨w3.heap.size, 0, none⟩) (fun _ => rfl) _) (fun b hb e => by omega), by rw [← HK.out]; exact (Parts.put HPW.out hk4 G1.out (by rw [HVk.out]; exact G2.out) (by rw [HVk.out]; exact G3.out))⟩
        case measure => simp [intOf]; omega
    · obtain rfl : i = S.length := by omega
      have Hall : Hid (allE (parts4 S (toPart cs) S.length) = S) := Lib.hid (allE_parts HSo.out _ (toPart_lt cs))
      have Hsort : Hid (∀ l ∈ parts4 S (toPart cs) S.length, SortedE l) := Lib.hid fun l hl => by obtain ⟨k, rfl⟩ := parts4_mem hl; exact part_sorted HSo.out _ _ _
      have Hmem : Hid (∀ l ∈ parts4 S (toPart cs) S.length, l.length ≤ 1000) := Lib.hid fun l hl => by obtain ⟨k, rfl⟩ := parts4_mem hl; have := part_le S (toPart cs) S.length k; omega
      have HSl : Hid (Sl lstC wo (fun _ => True) (.slice (some ⟨w3.heap.size, 0, none⟩) 4 4) (parts4 S (toPart cs) S.length)) := Lib.hid (HPo.out.sl fun k => by have := part_le S (toPart cs) S.length k; omega)
      have Hlen : Hid ((parts4 S (toPart cs) S.length).length ≤ 1000) := Lib.hid (by simp [parts4])
      generalize parts4 S (toPart cs) S.length = L at *
      go_wp2_with (first
        | (go_at_call 47; refine (new_ok HSl.out Hlen.out Hmem.out Hsort.out).mono ?_; rintro e w6 ⟨hx6, C, cv, rfl, hc6, hh6⟩; have HX6 := Lib.hid hx6; have HC6 := Lib.hid hc6; clear hx6 hc6 hh6)
        | (go_at_call 49; refine (me_all HC6.out Hsort.out Hlen.out (by rw [Hall.out]; omega)).mono ?_; rw [Hall.out]; rintro e w7 ⟨v7, rfl, hx7, ho7⟩; have HX7 := Lib.hid hx7; have HO7 := Lib.hid (OwnedM.slM ho7 (by omega)); obtain ⟨A7, k7, m7, rfl⟩ := ho7.form0; clear hx7 ho7)
        | (go_at_call 32; refine (r3_sameSelfM HO7.out (((HSb.out.ext HXo.out).ext HX6.out).ext HX7.out)).mono ?_; rintro r w8 ⟨rfl, hx8⟩))
      go_ret
      exact ⟨rfl, (((HX3.out.ext HXo.out).ext HX6.out).ext HX7.out).ext hx8⟩
end Go.Proofs.Yteaanagljmcidaa

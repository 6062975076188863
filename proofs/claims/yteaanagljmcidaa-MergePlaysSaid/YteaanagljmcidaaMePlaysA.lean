/- law14: MergePlays: what a cursor (or none) does; the twins, list by list. -/
import Derived.Test.YteaanagljmcidaaLawM
import Derived.Test.YteaanagljmcidaaAll14
namespace Go.Proofs.Yteaanagljmcidaa
open Go.RowKit

attribute [local go_sem ↓] Go.wp_at_zero Go.wp_at_succ

/-- A step's answer: it stands at place i, if there is one; blocks from B to D alone are others. -/
def StP (B D : Nat) (I : Int → World → Prop) (all : List Ent) (w : World) (i : Int) (e : Ending) (w' : World) : Prop :=
  e = .returned (.bool (decide (0 ≤ i ∧ i < all.length))) ∧ Out (fun b => B ≤ b ∧ b < D) w w' ∧ I i w'
/-- What a cursor (or none) does. -/
structure Steps (cv : Value) (B D : Nat) (I : Int → World → Prop) (all : List Ent) : Prop where
  keep : ∀ {i a b} {T : Nat → Prop}, I i a → Out T a b → (∀ k, B ≤ k → k < a.heap.size → ¬ T k) → I i b
  first : ∀ {i w}, I i w → Calls Try.prog 50 #[cv] w (StP B D I all w 0)
  last : ∀ {i w}, I i w → Calls Try.prog 51 #[cv] w (StP B D I all w ((all.length : Int) - 1))
  from_ : ∀ {i w} {G : Nat → Prop} {x : Value} {k : Key}, I i w → Bs w G x k.user → (∀ b, G b → ¬ (B ≤ b ∧ b < D)) → Calls Try.prog 52 #[cv, .agg #[x, u64V k.seq, byteV k.kind]] w (StP B D I all w (aheadN all k : Nat))
  before : ∀ {i w} {G : Nat → Prop} {x : Value} {k : Key}, I i w → Bs w G x k.user → (∀ b, G b → ¬ (B ≤ b ∧ b < D)) → Calls Try.prog 54 #[cv, .agg #[x, u64V k.seq, byteV k.kind]] w (StP B D I all w ((aheadN all k : Int) - 1))
  next : ∀ {i : Nat} {w}, i < all.length → I i w → Calls Try.prog 55 #[cv] w (StP B D I all w ((i : Int) + 1))
  prev : ∀ {i : Nat} {w}, i < all.length → I i w → Calls Try.prog 56 #[cv] w (StP B D I all w ((i : Int) - 1))
  nextNo : ∀ {i : Int} {w}, i < 0 ∨ (all.length : Int) ≤ i → I i w → Calls Try.prog 55 #[cv] w fun e w' => e = .returned (.bool false) ∧ w' = w
  prevNo : ∀ {i : Int} {w}, i < 0 ∨ (all.length : Int) ≤ i → I i w → Calls Try.prog 56 #[cv] w fun e w' => e = .returned (.bool false) ∧ w' = w
  here : ∀ {i : Nat} {w} (h : i < all.length), I i w → Calls Try.prog 57 #[cv] w (ToldM w (some all[i]))
  hereNo : ∀ {i : Int} {w}, i < 0 ∨ (all.length : Int) ≤ i → I i w → Calls Try.prog 57 #[cv] w (ToldM w none)
  all_ : ∀ {i w}, I i w → Calls Try.prog 49 #[cv] w (OwnedM entC 32 w all)
  out : ∀ {i j : Int} {w}, (i < 0 ∨ (all.length : Int) ≤ i) → (j < 0 ∨ (all.length : Int) ≤ j) → I i w → I j w

theorem steps_cur {ls : List (List Ent)} (hs : ∀ l ∈ ls, SortedE l) (hlen : ls.length ≤ 1000) (hall : (allE ls).length ≤ 1000) {C B D : Nat} {v : Value} (hh : ∀ b, hot C v b → B ≤ b ∧ b < D) :
    Steps (.pointer (some ⟨C, 0, none⟩)) B D (fun i w => Cur w (fun b => B ≤ b ∧ b ≠ C ∧ v.ownBlock ≠ some b) C v ls (atI ls i)) (allE ls) := by
  have st : ∀ {w w' : World} {i : Int} {e : Ending}, Stepped w (fun b => B ≤ b ∧ b ≠ C ∧ v.ownBlock ≠ some b) C v ls i e w' → StP B D (fun i w => Cur w (fun b => B ≤ b ∧ b ≠ C ∧ v.ownBlock ≠ some b) C v ls (atI ls i)) (allE ls) w i e w' :=
    fun h => ⟨h.1, h.2.1.mono fun b _ hb => hh b hb, h.2.2⟩
  exact
  { keep := fun h ho hT => h.frame ho (hT C (hh C (.inl rfl)).1 (h.lt C (.inl rfl))) (fun b hb => hT b (hh b (.inr hb)).1 (h.lt b (.inr hb))) (fun b hb hf => hT b hf.1 hb)
    first := fun h => (at_first hs h).mono fun _ _ h => st h
    last := fun h => (at_last hs h).mono fun _ _ h => st h
    from_ := fun h hu hG => (at_from hs h hu (fun b hb hg => hG b hg (hh b (.inr hb)))).mono fun _ _ h => st h
    before := fun h hu hG => (at_before hs h hu (fun b hb hg => hG b hg (hh b (.inr hb)))).mono fun _ _ h => st h
    next := fun hi h => (at_next hs hi h).mono fun _ _ h => st h
    prev := fun hi h => (at_prev hs hi h).mono fun _ _ h => st h
    nextNo := fun hi h => at_nextNo hi h
    prevNo := fun hi h => at_prevNo hi h
    here := fun hi h => at_here hs hi h
    hereNo := fun hi h => at_hereNo hi h
    all_ := fun h => me_all h hs hlen hall
    out := fun hi hj h => by rw [atI_out hi] at h; rw [atI_out hj]; exact h }

theorem steps_nil (B D : Nat) : Steps (.pointer none) B D (fun _ _ => True) [] := by
  have st : ∀ {w w' : World} {i : Int} {e : Ending}, e = .returned (.bool false) ∧ w' = w → StP B D (fun _ _ => True) [] w i e w' := fun h => by
    refine ⟨?_, by rw [h.2]; exact Out.refl _ _, trivial⟩
    rw [h.1, decide_eq_false (by simp <;> omega)]
  have st2 : ∀ {w w' : World} {i : Int} {e : Ending}, e = .returned (.bool false) ∧ Ext w w' → StP B D (fun _ _ => True) [] w i e w' := fun h => by
    refine ⟨?_, Ext.out h.2 _, trivial⟩
    rw [h.1, decide_eq_false (by simp <;> omega)]
  exact
  { keep := fun _ _ _ => trivial
    first := fun _ => nil_first.mono fun _ _ h => st h
    last := fun _ => nil_last.mono fun _ _ h => st h
    from_ := fun _ hu _ => (let ⟨_, _, _, hx⟩ := hu.form0; (nil_fromC hx).mono fun _ _ h => st2 h)
    before := fun _ hu _ => (let ⟨_, _, _, hx⟩ := hu.form0; (nil_beforeC hx).mono fun _ _ h => st2 h)
    next := fun hi => absurd hi (by simp)
    prev := fun hi => absurd hi (by simp)
    nextNo := fun _ _ => nil_next
    prevNo := fun _ _ => nil_prev
    here := fun hi => absurd hi (by simp)
    hereNo := fun _ _ => nil_here
    all_ := fun _ => nil_allC
    out := fun _ _ _ => trivial }

/-! ### the twins, list by list -/
theorem Own.pokeEM {w : World} {B : Nat} {F : Nat → Prop} {v : Value} {l : List Ent} (h : Own entC 32 w B F v l) {p : Addr} {x : UInt8} (hp : w.cell? p = some (byteV x)) (hr : v.ownBlock ≠ some p.block) (y : UInt8) :
    ∃ l' : List Ent, l'.length = l.length ∧ (∀ i (h : i < l.length) (h' : i < l'.length), l'[i].key.user.length = l[i].key.user.length) ∧ Own entC 32 (w.setCell p (byteV y)) B F v l' := by
  obtain ⟨xs, ho, he⟩ := h
  have key : ∀ i (hi : i < l.length), ∃ e : Ent, e.key.user.length = l[i].key.user.length ∧ ∃ cs, (∀ j, j < entC.size → xs[i * entC.size + j]? = cs[j]?) ∧ entC.rep (w.setCell p (byteV y)) (fun b => F b ∧ v.ownBlock ≠ some b) cs e := fun i hi => by
    obtain ⟨cs, hc, u, z, h1, h2, h3⟩ := he i hi
    obtain ⟨l1, e1, g1⟩ := h2.poke hp y
    obtain ⟨l2, _, g2⟩ := h3.poke hp y
    exact ⟨⟨⟨l1, l[i].key.seq, l[i].key.kind⟩, l2⟩, e1, cs, hc, u, z, h1, g1, g2⟩
  have hex : ∃ f : Nat → Ent, ∀ i (hi : i < l.length), (f i).key.user.length = l[i].key.user.length ∧ ∃ cs, (∀ j, j < entC.size → xs[i * entC.size + j]? = cs[j]?) ∧ entC.rep (w.setCell p (byteV y)) (fun b => F b ∧ v.ownBlock ≠ some b) cs (f i) := by
    classical
    refine ⟨fun i => if hi : i < l.length then Classical.choose (key i hi) else default, fun i hi => ?_⟩
    simp only [dif_pos hi]
    exact Classical.choose_spec (key i hi)
  obtain ⟨f, hf⟩ := hex
  have hlen : ((List.range l.length).map f).length = l.length := by simp
  refine ⟨(List.range l.length).map f, hlen, fun i h1 h2 => by simpa using (hf i h1).1, xs, ?_, fun i hi => ?_⟩
  · rw [hlen]
    refine ⟨ho.1, ?_⟩
    rcases ho.2 with h0 | ⟨g, cap, cur, h3, h4, h5, h6⟩
    · exact .inl h0
    · refine .inr ⟨g, cap, cur, h3, h4, ?_, h6⟩
      exact (Below.heap_setCell _ _ _ _ (fun e => hr (by rw [h3, ← e]; rfl))).trans h5
  · rw [hlen] at hi
    obtain ⟨-, cs, hc, hr'⟩ := hf i hi
    exact ⟨cs, hc, by simpa using hr'⟩

theorem Own.slT {α : Type} {c : Codec α} {e : TypeId} {w : World} {B : Nat} {F : Nat → Prop} {v : Value} {l : List α} (h : Own c e w B F v l) (hl : l.length ≤ c.bound) {G : Nat → Prop} (hF : ∀ b, F b → b < w.heap.size → G b) (hB : ∀ b, v.ownBlock = some b → G b) : Sl c w G v l := by
  obtain ⟨xs, ho, he⟩ := h
  rcases ho.2 with ⟨rfl, h0⟩ | ⟨g, cap, cur, rfl, hb, hg, hnc, hcm, hcs, htake⟩
  · have : l = [] := List.eq_nil_of_length_eq_zero h0
    subst this
    exact Sl.nil _ _ _
  · have hlt : g < w.heap.size := (Array.getElem?_eq_some_iff.1 hg).1
    refine ⟨_, cap, rfl, hnc, hcm, hl, (fun h => by cases h), fun i hi => ?_⟩
    obtain ⟨cs, hc, hr⟩ := he i hi
    refine ⟨g, 0, cs, rfl, hB g rfl, ⟨fun j u hu => ?_, fun j _ => blk_free hg _⟩, c.mono hr fun b hb hlt => hF b hb.1 hlt⟩
    have hj : j < c.size := by
      have := (List.getElem?_eq_some_iff.1 hu).1
      rwa [c.len hr] at this
    rw [cell_of_row w g _ cur e (0, 0) hg]
    have h2 := hc j hj
    rw [← htake, List.getElem?_take, hu] at h2
    split at h2
    · simpa [Nat.add_assoc] using h2
    · cases h2
/-- A list that lies from s to t. -/
def twC : Codec (List Ent × Nat × Nat) where
  size := 1
  rep w F cs a := ∃ v, cs = [v] ∧ Own entC 32 w a.2.1 (fun b => F b ∧ a.2.1 ≤ b ∧ b < a.2.2) v a.1 ∧ ∀ b, v.ownBlock = some b → F b ∧ a.2.1 ≤ b ∧ b < a.2.2
  len := fun ⟨_, h, _⟩ => by rw [h]; rfl
  one := fun ⟨u, h, hb, _⟩ x hx => by
    rw [h] at hx; obtain ⟨A, n, cap, rfl⟩ := hb.form0
    simp only [List.mem_cons, List.not_mem_nil, or_false] at hx
    subst hx; rfl
  frame := fun {w w' F cs a} ⟨v, h, hb, hg⟩ hF => ⟨v, h, by
    obtain ⟨xs, ho, he⟩ := hb
    refine ⟨xs, ⟨ho.1, ?_⟩, fun i hi => ?_⟩
    · rcases ho.2 with hn | ⟨g, cap, cur, rfl, h1, h2, h3⟩
      · exact .inl hn
      · exact .inr ⟨g, cap, cur, rfl, h1, by rw [hF g (hg g rfl).1 (blk_lt h2)]; exact h2, h3⟩
    · obtain ⟨cs, hc, hr⟩ := he i hi
      exact ⟨cs, hc, entC.frame hr fun b hb hlt => hF b hb.1.1 hlt⟩, hg⟩
  mono := fun {w F G cs a} ⟨v, h, hb, hg⟩ hF => ⟨v, h, hb.mono fun b hb hlt => ⟨hF b hb.1 hlt, hb.2⟩, fun b e => ⟨hF b (hg b e).1 (hb.lt b e).2, (hg b e).2⟩⟩

theorem fits62T : Fits Try.prog 62 43 twC.size 24 := fits62
theorem Own.tw {w : World} {B : Nat} {F : Nat → Prop} {v : Value} {tw : List (List Ent × Nat × Nat)} (h : Own twC 43 w B F v tw) (hl : ∀ a ∈ tw, a.1.length ≤ 1000) : Own lstC 43 w B F v (tw.map (·.1)) := by
  obtain ⟨xs, ho, he⟩ := h
  refine ⟨xs, by rw [List.length_map]; exact ho, fun i hi => ?_⟩
  rw [List.length_map] at hi
  obtain ⟨cs, hc, v', rfl, h1, h2⟩ := he i hi
  refine ⟨_, hc, v', rfl, ?_⟩
  rw [List.getElem_map]
  have := hl _ (List.getElem_mem hi)
  exact h1.slT (by show _ ≤ 140737488355328; omega) (fun b hb _ => hb.1) (fun b hb => (h2 b hb).1)

set_option maxRecDepth 100000 in
set_option maxHeartbeats 1000000 in
theorem r3_twinsO (w : World) {F : Nat → Prop} {x : Value} (l : List Ent) (hx : Sl entC w F x l) (hl : l.length < 1000000000000) :
    Calls Try.prog 38 #[x] w (OwnedM entC 32 w l) := by
  obtain ⟨A, cap, rfl, h1, h2, h3, h4⟩ := hx.form
  have Hx := Lib.hid hx
  clear h1 h2 h3 h4 hx
  go_enter Try.func38, Try.ntmps38
  go_wp2
  go_loopw [3, 8] (fun o i wr => ∃ k : Nat, k ≤ l.length ∧ i = .int .i64 k ∧ Own entC 32 wr w.heap.size (fun b => w.heap.size ≤ b) o (l.take k) ∧ Ext w wr) (fun _ i _ => l.length - (intOf i).toNat)
  case atStart => exact ⟨0, Nat.zero_le _, rfl, Own.nil _ _ _ _ _, Out.refl _ w⟩
  case round =>
    obtain ⟨k, hk, rfl, hown, hext⟩ := hrel
    by_cases hlt : k < l.length
    · obtain ⟨b1, o1, u1, v1, rfl, -, c0, c1, c2, c3, hu, hv⟩ := (Hx.out.ext hext).ent k hlt
      obtain ⟨U, n1, rfl, -⟩ := hu.form
      obtain ⟨V, n2, rfl, -⟩ := hv.form
      have hsz := hext.size
      have hu' := hu.alloc (.cells #[.slice U l[k].key.user.length n1, u64V l[k].key.seq, byteV l[k].key.kind, .slice V l[k].value.length n2] 32)
      have hv' := hv.alloc (.cells #[.slice U l[k].key.user.length n1, u64V l[k].key.seq, byteV l[k].key.kind, .slice V l[k].value.length n2] 32)
      have hown' := hown.ext (Ext.alloc1 wr (.cells #[.slice U l[k].key.user.length n1, u64V l[k].key.seq, byteV l[k].key.kind, .slice V l[k].value.length n2] 32))
      have Lt := Lib.hid hown'.lt
      have Sz := Lib.hid (le_alloc hsz (.cells #[.slice U l[k].key.user.length n1, u64V l[k].key.seq, byteV l[k].key.kind, .slice V l[k].value.length n2] 32))
      have Hext := Lib.hid hext
      clear hext
      go_wp2_with (first | (go_at_call 39; refine (r3_twin _ l[k] hu' hv').mono ?_; rintro x w1 ⟨x1, x2, rfl, hx1, hb1, hb2⟩) | (at_builtin; refine wpList_append_one rfl (.tmp 12) (.tmp 15) 43 rfl fits32 ((hown'.ext hx1).ext (Ext.alloc1 _ _)) rfl (le_alloc (Nat.le_trans Sz.out hx1.size) _) (blk_new _ _) rfl l[k] (ent_rep (hb1.alloc _) (hb2.alloc _) (fun b hb _ => fresh_ok Sz.out Lt.out hb) (fun b hb _ => fresh_ok Sz.out Lt.out hb)) (room_take hl (by decide)) (by decide) ?_; intro v' w' g1 g2 g3))
      go_roundw
      case rel => exact ⟨k + 1, by omega, by go_num, by rw [take_succ_get hlt]; exact g1, Out.own (((Hext.out.alloc _).ext hx1).alloc _) g2 (fun k h => (Lt.out k h).1) (Nat.le_refl _)⟩
      case measure => simp [intOf]; omega
    · go_wp2
      go_ret
      have hkl : l.take k = l := List.take_of_length_le (by omega)
      rw [hkl] at hown
      exact ⟨_, rfl, hext, hown⟩

/-- The twins: each list from somewhere to somewhere, one behind the other. -/
def TwinL (lo hi : Nat) (tw : List (List Ent × Nat × Nat)) : Prop := (∀ a ∈ tw, lo ≤ a.2.1 ∧ a.2.2 ≤ hi) ∧ tw.Pairwise fun a b => a.2.2 ≤ b.2.1

set_option maxRecDepth 100000 in
set_option maxHeartbeats 4000000 in
theorem law14_twinsT (w : World) {F : Nat → Prop} {x : Value} (ls : List (List Ent)) (hx : Sl lstC w F x ls) (hls : ls.length ≤ 1000) (hll : ∀ l ∈ ls, l.length ≤ 1000) :
    Calls Try.prog 46 #[x] w fun e w' => ∃ v tw, e = .returned v ∧ Ext w w' ∧ Own twC 43 w' w.heap.size (fun k => w.heap.size ≤ k) v tw ∧ tw.map (·.1) = ls ∧ TwinL w.heap.size w'.heap.size tw := by
  obtain ⟨A, cap, rfl, h1, h2, h3, h4⟩ := hx.form
  have Hx := Lib.hid hx
  have Hll := Lib.hid hll
  clear h1 h2 h3 h4 hx hll
  go_enter Try.func46, Try.ntmps46
  go_wp2
  go_loopw [3, 8] (fun s3 s8 wr => ∃ (k : Nat) (tw : List (List Ent × Nat × Nat)), k ≤ ls.length ∧ s8 = .int .i64 k ∧ Own twC 43 wr w.heap.size (fun b => w.heap.size ≤ b) s3 tw ∧ Ext w wr ∧ tw.map (·.1) = ls.take k ∧ TwinL w.heap.size wr.heap.size tw) (fun _ s8 _ => ls.length - (intOf s8).toNat)
  case atStart => exact ⟨0, [], Nat.zero_le _, rfl, Own.nil _ _ _ _ _, Out.refl _ w, by simp, fun _ h => absurd h (by simp), .nil⟩
  case round =>
    obtain ⟨k, tw, hk, rfl, hown, hext, htw, htl⟩ := hrel
    obtain ⟨A5, n5, c5, rfl⟩ := hown.form0
    have HFl := Lib.hid hown.lt
    have Hown := Lib.hid hown
    have Hext := Lib.hid hext
    have hsz := hext.size
    have Htw := Lib.hid htw
    have Htl := Lib.hid htl
    have hlen : tw.length ≤ 1000 := by have := congrArg List.length htw; rw [List.length_map, List.length_take] at this; omega
    clear hown hext htw htl
    by_cases hlt : k < ls.length
    · obtain ⟨b1, o1, u1, hA1, -, c0, hl⟩ := (Hx.out.ext Hext.out).listAt k hlt
      subst hA1
      have hlk := Hll.out _ (List.getElem_mem hlt)
      obtain ⟨L, lc, rfl, -⟩ := hl.form
      have Hl := Lib.hid hl
      clear hl
      go_wp2_with (first
        | (go_at_call 38; refine (r3_twinsO _ ls[k] Hl.out (by omega)).mono ?_; rintro e w1 ⟨x1, rfl, hx1, hb1⟩; have hs1 := hx1.size; have HB1 := Lib.hid hb1; have HX1 := Lib.hid hx1; obtain ⟨L1, n1, m1, rfl⟩ := hb1.form0; clear hb1 hx1)
        | (at_builtin; refine wpList_append_one rfl (.tmp 12) (.tmp 15) 62 rfl fits62T ((Hown.out.ext HX1.out).ext (Ext.alloc1 _ _)) rfl (by (try simp only [World.size_alloc]); omega) (blk_new _ _) rfl (ls[k], wr.heap.size, w1.heap.size) ⟨_, rfl, ((HB1.out.mono (G := fun b => (w.heap.size ≤ b ∧ (Value.slice A5 n5 c5).ownBlock ≠ some b) ∧ wr.heap.size ≤ b ∧ b < w1.heap.size) (fun b hb hlt => ⟨⟨by omega, fun e => by have := (HFl.out _ e).2; omega⟩, hb, hlt⟩)).ext (Ext.alloc1 _ _)), fun b e => by have := HB1.out.lt b e; exact ⟨⟨by omega, fun e => by have := (HFl.out _ e).2; omega⟩, this⟩⟩ (by omega) (by decide) ?_; intro v' w3 g1 g2 g3; obtain ⟨A6, n6, c6, rfl⟩ := g1.form0; have G1 := Lib.hid g1; have G2 := Lib.hid g2; have hs3 := g2.size; simp only [World.size_alloc] at hs3; clear g1 g2 g3))
      go_roundw
      case rel =>
        refine ⟨k + 1, tw ++ [(ls[k], wr.heap.size, w1.heap.size)], by omega, by go_num, G1.out, ((Hext.out.ext HX1.out).alloc _).then G2.out (fun b hb e => by have := (HFl.out _ e).1; omega), by rw [List.map_append, Htw.out, take_list_succ hlt]; rfl, fun a ha => ?_, ?_⟩
        · rcases List.mem_append.1 ha with ha | ha
          · have := Htl.out.1 a ha; omega
          · obtain rfl := List.mem_singleton.1 ha
            exact ⟨hsz, by simp; omega⟩
        · refine List.pairwise_append.2 ⟨Htl.out.2, List.pairwise_singleton _ _, fun a ha b hb => ?_⟩
          obtain rfl := List.mem_singleton.1 hb
          exact (Htl.out.1 a ha).2
      case measure => simp [intOf]; omega
    · obtain rfl : k = ls.length := by omega
      rw [List.take_length] at Htw
      go_wp2
      go_ret
      exact ⟨_, tw, rfl, Hext.out, Hown.out, Htw.out, Htl.out⟩

/-- New, whatever the lists are. -/
theorem newS {w : World} {F : Nat → Prop} {x : Value} {ls : List (List Ent)} (hx : Sl lstC w F x ls) (hls : ls.length ≤ 1000) (hll : ∀ l ∈ ls, l.length ≤ 1000) (hall : (allE ls).length ≤ 1000) :
    Calls Try.prog 47 #[x] w fun e w' => Ext w w' ∧ ∃ (cv : Value) (I : Int → World → Prop) (all : List Ent) (code : Int), e = .returned (.tuple #[cv, .int .i64 code]) ∧ Steps cv w.heap.size w'.heap.size I all ∧ I (-1) w' ∧ all.length ≤ 1000 ∧
      ((∀ l ∈ ls, SortedE l) → all = allE ls ∧ code = 0 ∧ ∃ C, cv = .pointer (some ⟨C, 0, none⟩)) ∧ ((¬ ∀ l ∈ ls, SortedE l) → all = [] ∧ code = 10 ∧ cv = .pointer none) := by
  refine (me_new hx hls hll).mono fun e w' h => ⟨h.1, ?_⟩
  by_cases hs : ∀ l ∈ ls, SortedE l
  · obtain ⟨C, v, rfl, hc, hh⟩ := h.2.1 hs
    refine ⟨_, _, allE ls, 0, rfl, steps_cur (B := w.heap.size) (D := w'.heap.size) hs hls hall (C := C) (v := v) (fun b hb => ⟨hh b hb, hc.lt b hb⟩), ?_, hall, fun _ => ⟨rfl, rfl, C, rfl⟩, fun hn => absurd hs hn⟩
    rw [atI_neg _ (by omega)]; exact hc
  · obtain rfl := h.2.2 hs
    exact ⟨_, _, [], 10, rfl, steps_nil _ _, trivial, by simp, fun hy => absurd hy hs, fun _ => ⟨rfl, rfl, rfl⟩⟩
/-- ref14's All, whatever the lists are. -/
theorem allS (w : World) {F : Nat → Prop} {x : Value} (ls : List (List Ent)) (hx : Sl lstC w F x ls) (hls : ls.length ≤ 1000) (hll : ∀ l ∈ ls, l.length ≤ 1000) {all : List Ent} {code : Int} {cv : Value}
    (h1 : (∀ l ∈ ls, SortedE l) → all = allE ls ∧ code = 0 ∧ ∃ C, cv = .pointer (some ⟨C, 0, none⟩)) (h2 : (¬ ∀ l ∈ ls, SortedE l) → all = [] ∧ code = 10 ∧ cv = .pointer none) :
    Calls Try.prog 48 #[x] w fun e w' => Ext w w' ∧ ∃ v, e = .returned (.tuple #[v, .int .i64 code]) ∧ Sl entC w' (fun b => F b ∧ b < w.heap.size ∨ w.heap.size ≤ b) v all := by
  refine (r14_all w ls hx hls hll).mono fun e w' h => ⟨h.1, ?_⟩
  by_cases hs : ∀ l ∈ ls, SortedE l
  · obtain ⟨v, rfl, hv⟩ := h.2.1 hs
    obtain ⟨rfl, rfl, -⟩ := h1 hs
    exact ⟨v, rfl, hv⟩
  · obtain rfl := h.2.2 hs
    obtain ⟨rfl, rfl, -⟩ := h2 hs
    exact ⟨_, rfl, Sl.nil _ _ _⟩
/-- Which of the twins' blocks the first i lists' bytes are. -/
def hitR (v : Value) (tw : List (List Ent × Nat × Nat)) (i : Nat) (b : Nat) : Prop := v.ownBlock ≠ some b ∧ ∃ j, ∃ h : j < tw.length, j < i ∧ tw[j].2.1 ≤ b ∧ b < tw[j].2.2
theorem Own.twAt {w : World} {B : Nat} {F : Nat → Prop} {v : Value} {tw : List (List Ent × Nat × Nat)} (h : Own twC 43 w B F v tw) (i : Nat) (hi : i < tw.length) :
    ∃ g cap lv, v = .slice (some ⟨g, 0, none⟩) tw.length cap ∧ g < w.heap.size ∧ w.cell? ⟨g, i, none⟩ = some lv ∧ Own entC 32 w tw[i].2.1 (fun b => (F b ∧ v.ownBlock ≠ some b) ∧ tw[i].2.1 ≤ b ∧ b < tw[i].2.2) lv tw[i].1 ∧ (∀ b, lv.ownBlock = some b → (F b ∧ v.ownBlock ≠ some b) ∧ tw[i].2.1 ≤ b ∧ b < tw[i].2.2) := by
  obtain ⟨xs, ho, he⟩ := h
  obtain ⟨cs', hc', lv, rfl, h1, h2⟩ := he i hi
  rcases ho.2 with ⟨rfl, h0⟩ | ⟨g, cap, cur, rfl, hb, hg, hnc, _⟩
  · omega
  · have h3 := hc' 0 (by decide)
    have h4 := ho.cells (g := g) rfl (i * twC.size + 0) lv h3
    rw [show (⟨g, 0, none⟩ : Addr).add (i * twC.size + 0) = ⟨g, i, none⟩ from by unfold Addr.add; simp [twC]; try (intro hz; exact hz.symm)] at h4
    exact ⟨g, cap, lv, rfl, blk_lt hg, h4, h1, h2⟩
theorem Sl.goAt {w : World} {F : Nat → Prop} {A : Option Addr} {n cap : Nat} {l : List GoE} (h : Sl goCA w F (.slice A n cap) l) (i : Nat) (hi : i < l.length) :
    ∃ b off u, A = some ⟨b, off, none⟩ ∧ F b ∧ w.cell? ⟨b, off + i * 4, none⟩ = some (byteV l[i].op) ∧ w.cell? ⟨b, off + i * 4 + 1, none⟩ = some u ∧ w.cell? ⟨b, off + i * 4 + 2, none⟩ = some (u64V l[i].k.seq) ∧ w.cell? ⟨b, off + i * 4 + 3, none⟩ = some (byteV l[i].k.kind) ∧ BsA w F u l[i].k.user := by
  obtain ⟨b, off, cs, hA, hF, hat, u, rfl, h1⟩ := h.get i hi
  exact ⟨b, off, u, hA, hF, hat 0 _ rfl, hat 1 _ rfl, hat 2 _ rfl, hat 3 _ rfl, h1⟩
/-- A step's box bears the cut key. -/
theorem key_cut4 {w0 w' : World} {g B : Nat} {op : UInt8} {K : Key} {u0 x : Value} {l : List UInt8} (HK : w'.heap[g]? = some (.cells #[byteV op, u0, u64V K.seq, byteV K.kind] 72))
    (H1 : Own byteC 5 w' B (fun _ => False) x ([] ++ l)) (hl : l.length ≤ 80) (hx : Ext w0 w') (hg : w0.heap.size ≤ g) (hB : g < B) :
    ∃ (k' : Key) (u' : Value), (w'.setCell ⟨g, 1, none⟩ x).heap[g]? = some (.cells #[byteV op, u', u64V k'.seq, byteV k'.kind] 72) ∧
      Bs (w'.setCell ⟨g, 1, none⟩ x) (fun b => g < b ∧ b < (w'.setCell ⟨g, 1, none⟩ x).heap.size) u' k'.user ∧ Ext w0 (w'.setCell ⟨g, 1, none⟩ x) := by
  have ho : Out (fun b => b = g) w' (w'.setCell ⟨g, 1, none⟩ x) := (Out.refl (fun b => b = g) w').setCell (p := ⟨g, 1, none⟩) (fun _ => rfl) _
  refine ⟨⟨l, K.seq, K.kind⟩, x, by have := blk_set HK 1 x; simpa using this, ?_, hx.then ho (fun i hi e => by omega)⟩
  have g1 := H1.sl (G := fun b => g < b ∧ b < w'.heap.size) (by decide) (by rw [List.nil_append]; show _ ≤ 140737488355328; omega) (fun b hb _ => hb.elim) (fun b hb hl => ⟨by omega, hl⟩)
  rw [List.nil_append] at g1
  have hsz := ho.size
  exact (g1.out ho (fun b _ hb e => by omega)).mono (fun b hb _ => ⟨hb.1, by omega⟩) (.inl (by decide))
end Go.Proofs.Yteaanagljmcidaa

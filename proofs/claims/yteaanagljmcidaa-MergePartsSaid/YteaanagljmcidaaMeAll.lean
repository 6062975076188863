/- merge: All. -/
import Derived.Test.YteaanagljmcidaaMeHere
namespace Go.Proofs.Yteaanagljmcidaa
open Go.RowKit

attribute [local go_sem ↓] Go.wp_at_zero Go.wp_at_succ

/-- append of all of another slice of the call's own. -/
theorem run_append_own {α : Type} {P : Program} {w : World} {c : Codec α} {t ty e e' : TypeId} {bytes : Nat} (hf : Fits P t e c.size bytes) {B B' : Nat} {F G : Nat → Prop} {v x : Value} {l m : List α}
    (hown : Own c e w B F v l) (hB : B ≤ w.heap.size) (hx : Own c e' w B' G x m) (hG : ∀ b, b < w.heap.size → G b → F b ∧ v.ownBlock ≠ some b)
    (h63 : (l.length + m.length) * bytes ≤ 140737488355328) (hbp : 0 < bytes) :
    ∃ v' w', (Builtin.append_ #[t, t] ty #[v, x]).run P w = .ok v' w' ∧ Own c e w' B F v' (l ++ m) ∧ w.grownBy w' v.ownBlock ∧ (v'.ownBlock = v.ownBlock ∨ v'.ownBlock = some w.heap.size) := by
  obtain ⟨ys, ho, he⟩ := hx
  rcases ho.2 with ⟨rfl, h0⟩ | ⟨g, cap, cur, rfl, hb, hg, hnc, hcm, hcs, htake⟩
  · obtain rfl : m = [] := List.eq_nil_of_length_eq_zero h0
    exact run_append_sl hf hown hB (Sl.nil c w (fun _ => True)) (fun i h => absurd h (by simp)) h63 hbp
  · have hlen := ho.1
    have hpos := hf.pos
    refine run_append_cells hf hown hB ⟨g, 0, none⟩ cap ys hlen (fun j u hj => ho.cells rfl j u hj) (fun u hu => ?_) (fun i hi => ?_) h63 hbp
    · obtain ⟨q, hq, rfl⟩ := List.mem_iff_getElem.1 hu
      have hi : q / c.size < m.length := by rw [Nat.div_lt_iff_lt_mul hpos]; omega
      obtain ⟨cs, h1, h2⟩ := he _ hi
      have h3 := h1 (q % c.size) (Nat.mod_lt _ hpos)
      rw [Nat.mul_comm, Nat.div_add_mod, List.getElem?_eq_getElem hq] at h3
      exact c.one h2 _ (List.mem_of_getElem? h3.symm)
    · obtain ⟨cs, h1, h2⟩ := he i hi
      exact ⟨cs, h1, c.mono h2 fun b hb hlt => hG b hlt hb.1⟩
theorem wpList_append_own2 {α : Type} {P : Program} {w : World} {ops : Array Oper} {rest : List Oper} {o : Oper} {a : Act} {Q : Exit → Act → World → Prop} (hgd : o.guard = none) (s x : Operand) (t : TypeId)
    (ho : o.op = .call { callee := .builtin .append, args := #[s, x], argTypes := #[t, t] })
    {c : Codec α} {e e' : TypeId} {bytes : Nat} (hf : Fits P t e c.size bytes) {B B' : Nat} {F G : Nat → Prop} {v xv : Value} {l m : List α}
    (hown : Own c e w B F v l) (hs : a.eval s = v) (hB : B ≤ w.heap.size) (hx : Own c e' w B' G xv m) (hxv : a.eval x = xv)
    (hG : ∀ b, b < w.heap.size → G b → F b ∧ v.ownBlock ≠ some b) (h63 : (l.length + m.length) * bytes ≤ 140737488355328) (hbp : 0 < bytes)
    (h : ∀ v' w', Own c e w' B F v' (l ++ m) → Out (fun k => v.ownBlock = some k) w w' → (v'.ownBlock = v.ownBlock ∨ v'.ownBlock = some w.heap.size) → wpList P ops Q rest (a.put o.dst v') w') :
    wpList P ops Q (o :: rest) a w := by
  refine wpList_plain hgd fun K hK => ?_
  obtain ⟨v', w', hr, h2, h3, h5⟩ := run_append_own (P := P) (ty := o.type) hf hown hB hx hG h63 hbp
  unfold Oper.wp execOp
  simp only [ho, resolve, invoke, builtin, Sem.run_bind, Sem.run_pure, Result.andThen_ok, List.map_toArray, List.map_cons, List.map_nil, hs, hxv, hr]
  exact hK _ _ (h v' w' h2 (Out.ofGrown h3) h5)

variable {w w' : World} {F G : Nat → Prop} {C : Nat} {v u q n : Value} {ls : List (List Ent)} {ss : List (List Ent × Int)} {st : Bool} {o : Option Key} {k : Key}
/-- Where one stands: at place i of the one list; or nowhere. -/
def keyIx (ls : List (List Ent)) (i : Nat) : Option Key := ((allE ls)[i]?).map (·.key)
theorem from_first (ls : List (List Ent)) : fromK (fun _ => false) ls = keyIx ls 0 := by unfold fromK keyIx; rw [cut_none]
theorem from_next {i : Nat} (hi : i < (allE ls).length) : fromK (fun j => !decide (kcmp (allE ls)[i].key j < 0)) ls = keyIx ls (i + 1) := by unfold fromK keyIx; rw [(allE_sorted ls).cut_upto hi]
theorem ahead_last (ls : List (List Ent)) : aheadK (fun _ => true) ls = if (allE ls).length = 0 then none else keyIx ls ((allE ls).length - 1) := by unfold aheadK keyIx; rw [cut_all]
theorem ahead_prev {i : Nat} (hi : i < (allE ls).length) : aheadK (fun j => decide (kcmp j (allE ls)[i].key < 0)) ls = if i = 0 then none else keyIx ls (i - 1) := by unfold aheadK keyIx; rw [(allE_sorted ls).cut_at hi]
theorem from_at (ls : List (List Ent)) (k : Key) : fromK (fun j => decide (kcmp j k < 0)) ls = keyIx ls (aheadN (allE ls) k) := by unfold fromK keyIx; rw [cut_ahead]
theorem ahead_at (ls : List (List Ent)) (k : Key) : aheadK (fun j => decide (kcmp j k < 0)) ls = if aheadN (allE ls) k = 0 then none else keyIx ls (aheadN (allE ls) k - 1) := by unfold aheadK keyIx; rw [cut_ahead]
theorem keyIx_lt {i : Nat} (hi : i < (allE ls).length) : keyIx ls i = some (allE ls)[i].key := by unfold keyIx; rw [List.getElem?_eq_getElem hi]; rfl
theorem keyIx_ge {i : Nat} (hi : (allE ls).length ≤ i) : keyIx ls i = none := by unfold keyIx; rw [List.getElem?_eq_none hi]; rfl
theorem here_at {i : Nat} (hi : i < (allE ls).length) : ls.flatten.find? (hasK (allE ls)[i].key) = some (allE ls)[i] := by
  rw [← find_allE, (allE_sorted ls).find]
  have h := (allE_sorted ls).cut_at hi
  rw [cut_ahead] at h
  rw [h, List.getElem?_eq_getElem hi]
  simp
theorem me_hereAt (hs : ∀ l ∈ ls, SortedE l) {i : Nat} (hi : i < (allE ls).length) (h : Cur w F C v ls (keyIx ls i)) : Calls Try.prog 57 #[.pointer (some ⟨C, 0, none⟩)] w (ToldM w (some (allE ls)[i])) := by
  rw [keyIx_lt hi] at h
  rw [← here_at hi]
  exact me_here h hs
theorem keyIx_some (ls : List (List Ent)) (i : Nat) : (keyIx ls i).isSome = decide (i < (allE ls).length) := by
  by_cases h : i < (allE ls).length
  · rw [keyIx_lt h]; simp [h]
  · rw [keyIx_ge (by omega)]; simp; omega

theorem me_nextAt (hs : ∀ l ∈ ls, SortedE l) {i : Nat} (hi : i < (allE ls).length) (h : Cur w F C v ls (keyIx ls i)) :
    Calls Try.prog 55 #[.pointer (some ⟨C, 0, none⟩)] w fun e w' => e = .returned (.bool (decide (i + 1 < (allE ls).length))) ∧ Out (hot C v) w w' ∧ Cur w' F C v ls (keyIx ls (i + 1)) := by
  rw [keyIx_lt hi] at h
  have := me_next h hs
  rwa [from_next hi, keyIx_some] at this
theorem me_firstAt (hs : ∀ l ∈ ls, SortedE l) (h : Cur w F C v ls o) :
    Calls Try.prog 50 #[.pointer (some ⟨C, 0, none⟩)] w fun e w' => e = .returned (.bool (decide (0 < (allE ls).length))) ∧ Out (hot C v) w w' ∧ Cur w' F C v ls (keyIx ls 0) := by
  have := me_first h hs
  rwa [from_first, keyIx_some] at this
theorem nil_allC : Calls Try.prog 49 #[.pointer none] w (OwnedM entC 32 w []) := by
  go_enter Try.func49, Try.ntmps49
  go_wp2
  go_ret
  exact ⟨_, rfl, Out.refl _ _, Own.nil _ _ _ _ _⟩

/-- A cursor of its own, over sources of its own. -/
theorem cur_new {B : Nat} (h : Own srcC 160 w B F v ss) (hB : ∀ b, F b → b < B) (hBw : B ≤ w.heap.size) :
    Cur (w.alloc (.cells #[v, .slice none 0 0, .int .u64 0, .int .u8 0, .bool false] 158)) F w.heap.size v (ss.map (·.1)) none :=
  ⟨ss, rfl, _, _, _, ⟨blk_new _ _, (h.ext (Ext.alloc1 _ _)).baseM (Nat.zero_le _), h.ne_new, fun hf => by have := hB _ hf; omega, fun b hb hf => by have := hB _ hf; have := (h.lt b hb).1; omega⟩, fun k hk => by cases hk⟩

def lenV : Value → Nat
  | .slice _ n _ => n
  | _ => 0

set_option maxRecDepth 100000 in
set_option maxHeartbeats 4000000 in
theorem me_all (h : Cur w F C v ls o) (hs : ∀ l ∈ ls, SortedE l) (hlen : ls.length ≤ 1000) (hall : (allE ls).length ≤ 1000) :
    Calls Try.prog 49 #[.pointer (some ⟨C, 0, none⟩)] w (OwnedM entC 32 w (allE ls)) := by
  obtain ⟨ss, hss, u, q, n, hc, -⟩ := h
  obtain ⟨A, cap, rfl, -⟩ := hc.own.form
  obtain ⟨r0, r1, r2, r3, r4, rf⟩ := cells5C (hc.ext (Ext.alloc1 w (.cells #[] 160)))
  have hsl : ss.length ≤ 1000 := by rw [← hss, List.length_map] at hlen; exact hlen
  have hown : Own srcC 160 w 0 (fun b => F b ∧ b < w.heap.size) (.slice A ss.length cap) ss := hc.own.mono fun b hb hlt => ⟨hb, hlt⟩
  have Hown := Lib.hid (hown.ext (Ext.alloc1 w (.cells #[] 160)))
  have He := Lib.hid (Own.empty srcC 160 w (fun b => F b ∧ b < w.heap.size))
  have Hss := Lib.hid hss
  clear hc hown hss hlen
  go_enter Try.func49, Try.ntmps49
  go_wp2_with (first
    | (at_builtin; go_loud (refine wpList_append_own2 rfl (.tmp 10) (.tmp 14) 156 rfl fits160 He.out rfl (by simp) Hown.out rfl (fun b _ hb => ⟨hb, fun e => by have e2 : w.heap.size = b := Option.some.inj e; have := hb.2; omega⟩) (by simp; omega) (by decide) ?_; intro v' w1 g1 g2 g3; rw [List.nil_append] at g1; obtain ⟨A', cap', rfl, -⟩ := g1.form; have hxA : Ext w w1 := ((Ext.alloc1 w _).then g2 (fun i hi e => by simp [Value.ownBlock] at e; omega)); have hsz := hxA.size; have HA := Lib.hid hxA; have Hlt := Lib.hid g1.lt; have hcn := cur_new g1 (fun b hb => hb.2) hsz; rw [Hss.out] at hcn; have HC := Lib.hid hcn; clear g1 g2 g3 hcn hxA))
    | (go_at_call 50; refine (me_firstAt hs HC.out).mono ?_; rintro e w3 ⟨rfl, ho3, hc3⟩; have HC3 := Lib.hid hc3; have HO3 := Lib.hid ho3; clear hc3 ho3))
  have hl1 : w.heap.size ≤ w1.heap.size := HA.out.size
  have hhot : ∀ b, hot w1.heap.size (.slice A' ss.length cap') b → w.heap.size ≤ b ∧ b < w1.heap.size + 1 := fun b hb => by
    rcases hb with rfl | hb
    · omega
    · have := Hlt.out b hb; omega
  have Hhot := Lib.hid hhot
  have hx3 : Ext w w3 := ((HA.out).alloc _).then HO3.out (fun i hi e => by have := Hhot.out i e; omega)
  have h3s := HO3.out.size
  simp only [World.size_alloc] at h3s
  have HX3 := Lib.hid hx3
  clear hx3 hhot
  generalize hB0 : w1.heap.size + 1 = B0 at *
  have hBw : w.heap.size ≤ B0 := by omega
  go_loopw [4, 5] (fun s4 s5 wr => ∃ i : Nat, i ≤ (allE ls).length ∧ s5 = .bool (decide (i < (allE ls).length)) ∧ Cur wr (fun b => F b ∧ b < w.heap.size) w1.heap.size (.slice A' ss.length cap') ls (keyIx ls i) ∧ Own entC 32 wr B0 (fun b => B0 ≤ b) s4 ((allE ls).take i) ∧ Ext w wr ∧ B0 ≤ wr.heap.size) (fun s4 _ _ => (allE ls).length - lenV s4)
  case atStart => exact ⟨0, Nat.zero_le _, rfl, HC3.out, Own.nil _ _ _ _ _, HX3.out, by omega⟩
  case round =>
    obtain ⟨wo, rfl⟩ : ∃ wo : World, wo = wr := ⟨_, rfl⟩
    obtain ⟨i, hi, rfl, hcur, hown, hx, hsz⟩ := hrel
    have hlen4 : ((allE ls).take i).length = i := by rw [List.length_take]; omega
    obtain ⟨A4, N4, c4, rfl⟩ := hown.form0
    have HN4 : Hid (N4 = i) := Lib.hid (by obtain ⟨_, _, e, -⟩ := hown.form; injection e with _ e _; rw [e, hlen4])
    have Hcur := Lib.hid hcur
    have Hown4 := Lib.hid hown
    have HX := Lib.hid hx
    have Hlen4 := Lib.hid hlen4
    have HFl := Lib.hid hown.lt
    clear hcur hown hx hlen4
    by_cases hlt : i < (allE ls).length
    · go_wp2_with (first
        | (go_at_call 57; refine (me_hereAt hs hlt Hcur.out).mono ?_; rintro e w4 ⟨u4, v4, rfl, hx4, hu4, hv4⟩; obtain ⟨U4, n4, m4, rfl⟩ := hu4.form0; obtain ⟨V4, p4, q4, rfl⟩ := hv4.form0; have HU4 := Lib.hid hu4; have HV4 := Lib.hid hv4; have HX4 := Lib.hid hx4; have hs4 := hx4.size; clear hu4 hv4 hx4)
        | (at_builtin; go_loud (refine wpList_append_one rfl (.tmp 28) (.tmp 30) 43 rfl fits32 (((Hown4.out.ext HX4.out).ext (Ext.alloc1 _ _)).ext (Ext.alloc1 _ _)) rfl (by simp; omega) (blk_at (n := w4.heap.size + 1) (by simp)) rfl (allE ls)[i] (ent_rep ((HU4.out.alloc _).alloc _) ((HV4.out.alloc _).alloc _) (fun b hb _ => fresh_ok hsz HFl.out hb) (fun b hb _ => fresh_ok hsz HFl.out hb)) (by rw [Hlen4.out]; omega) (by decide) ?_; intro v5 w5 g1 g2 g3; obtain ⟨A5, N5, c5, rfl⟩ := g1.form0; have HN5 : Hid (N5 = i + 1) := Lib.hid (by obtain ⟨_, _, e, -⟩ := g1.form; injection e with _ e _; rw [e, List.length_append, Hlen4.out]; rfl); have G1 := Lib.hid g1; have G2 := Lib.hid g2; have hs5 := g2.size; simp only [World.size_alloc] at hs5; have HC5 := Lib.hid ((((Hcur.out.ext HX4.out).ext (Ext.alloc1 _ _)).ext (Ext.alloc1 _ _)).frame g2 (fun e => by have := HFl.out _ e; omega) (fun b hb e => by have := Hhot.out b (.inr hb); have := HFl.out _ e; omega) (fun b _ hb e => by have := hb.2; have := HFl.out _ e; omega)); clear g1 g2 g3))
        | (go_at_call 55; refine (me_nextAt hs hlt HC5.out).mono ?_; rintro e w6 ⟨rfl, ho6, hc6⟩; have HC6 := Lib.hid hc6; have HO6 := Lib.hid ho6; have hs6 := ho6.size; clear hc6 ho6))
      go_roundw
      case rel =>
        have hxx : Ext w w5 := (((HX.out.ext HX4.out).alloc _).alloc _).then G2.out (fun b hb e => by have := HFl.out _ e; omega)
        exact ⟨i + 1, by omega, rfl, HC6.out, by
          rw [take_succ_get hlt]
          exact G1.out.frame HO6.out (fun b _ hb _ hh => by have := Hhot.out b hh; omega) (fun b _ hb _ hh => by have := Hhot.out b hh; omega), hxx.then HO6.out (fun b hb hh => by have := Hhot.out b hh; omega), by omega⟩
      case measure =>
        have e4 := HN4.out
        have e5 := HN5.out
        simp [lenV]; omega
    · go_wp2
      go_ret
      obtain rfl : i = (allE ls).length := by omega
      have hown := Hown4.out
      rw [List.take_length] at hown
      exact ⟨_, rfl, HX.out, (hown.baseM hBw).mono (fun b hb _ => by omega)⟩
end Go.Proofs.Yteaanagljmcidaa

/- skip: All, Row. -/
import Derived.Test.YteaanagljmcidaaEach
import Derived.Test.YteaanagljmcidaaSkM
import Derived.Test.YteaanagljmcidaaLists
namespace Go.Proofs.Yteaanagljmcidaa
open Go.RowKit

attribute [local go_sem] Oper.semAt_some

theorem wpListIn_append_one {F : Fence} {n : Nat} {P : Program} {w : World} {ops : Array Oper} {rest : List Oper} {o : Oper} {a : Act} {Q : Exit → Act → World → Prop} (hgd : o.guard = none) (s x : Operand) (t : TypeId)
    (ho : o.op = .call { callee := .builtin .append, args := #[s, x], argTypes := #[t, t] })
    {α : Type} {c : Codec α} {e : TypeId} {bytes : Nat} (hf : Fits P t e c.size bytes) {B : Nat} {G : Nat → Prop} {v : Value} {l : List α}
    (hown : Own c e w B G v l) (hs : a.eval s = v) (hB : B ≤ w.heap.size) {g : Nat} {cs : Array Value} {t' : TypeId} (hblk : w.heap[g]? = some (.cells cs t')) (hxv : a.eval x = .slice (some ⟨g, 0, none⟩) 1 1)
    (y : α) (hrep : c.rep w (fun b => G b ∧ v.ownBlock ≠ some b) cs.toList y) (h63 : (l.length + 1) * bytes ≤ 140737488355328) (hbp : 0 < bytes)
    (h : ∀ v' w', Own c e w' B G v' (l ++ [y]) → Out (fun k => v.ownBlock = some k) w w' → (v'.ownBlock = v.ownBlock ∨ v'.ownBlock = some w.heap.size) → wpListIn F n P ops Q rest (a.put o.dst v') w') :
    wpListIn F n P ops Q (o :: rest) a w := by
  refine wpListIn_plain hgd fun K hK' => ?_
  obtain ⟨v', w', hr, h2, h3, h5⟩ := run_append_one (P := P) (ty := o.type) hf hown hB hblk y hrep h63 hbp
  unfold Oper.wpIn
  refine ⟨?_, ?_⟩
  · simp [Oper.about, ho, resolve, Target.leads, Sem.run_pure]
  · rw [Oper.semAt_plain F _ _ (by rw [ho]; intro c hc'; cases hc')]
    simp [execOp, ho, resolve, invoke, builtin, hs, hxv, hr, Result.andThen]
    exact hK' _ _ (h v' w' h2 (Out.ofGrown h3) h5)

theorem Own.base {α : Type} {c : Codec α} {e : TypeId} {w : World} {B B' : Nat} {G : Nat → Prop} {v : Value} {l : List α} (h : Own c e w B G v l) (hB : B' ≤ B) : Own c e w B' G v l := by
  obtain ⟨xs, ⟨h1, h2⟩, he⟩ := h
  refine ⟨xs, ⟨h1, ?_⟩, he⟩
  rcases h2 with h2 | ⟨g, cap, cur, h3, h4, h5⟩
  · exact .inl h2
  · exact .inr ⟨g, cap, cur, h3, Nat.le_trans hB h4, h5⟩

/-- A list of the call's own comes back: it may be appended to. -/
def Owned {α : Type} (c : Codec α) (e : TypeId) (w : World) (l : List α) (x : Ending) (w' : World) : Prop := ∃ v, x = .returned v ∧ Ext w w' ∧ Own c e w' w.heap.size (fun b => w.heap.size ≤ b) v l

variable {w : World} {Foot : Nat → Prop} {L : Nat} {v : Value} {ts : List Tw} {ord : List Nat} {size : Int}

set_option maxRecDepth 100000 in
set_option maxHeartbeats 1000000 in
theorem sk_all0 (h : Sk w Foot L v ts size) (hg : Good ts ord) (hF : ∀ b, Foot b → b < w.heap.size) (hol : ord.length < 100000) :
    Calls Try.prog 33 #[.pointer (some ⟨L, 0, none⟩)] w (Owned entC 32 w ((chain ts ord 0).map (entAt ts))) := by
  refine (callsIn_wide (n := 5)).1 ?_
  have hN : (chain ts ord 0).length < 100000 := Nat.lt_of_le_of_lt (List.length_filter_le _ _) hol
  refine callsIn_of_wp_marks Try.func33 rfl trivial ?_ rfl
  simp only [Try.ntmps33, List.size_toArray, List.length_cons, List.length_nil, Nat.reduceAdd, Nat.reduceSub, Array.replicate_succ, Array.replicate_zero, List.push_toArray, List.append_toArray, List.nil_append, List.cons_append]
  have HS := Lib.hid h
  have HG := Lib.hid hg
  clear h hg
  gi_wp2_with (first | (refine ⟨trivial, ?_⟩; gi_at_call 100; refine (callsIn_wide.2 (sk_each _ _ _)).mono ?_; rintro e w' ⟨rfl, rfl⟩))
  have hD : (((w.alloc (.cells #[.slice none 0 0] 43)).alloc (.cells #[.pointer (some ⟨L, 0, none⟩)] 24)).alloc (.cells #[.int .i64 0] 3)).heap.size = w.heap.size + 3 := by simp
  have hx0 : Ext w (((w.alloc (.cells #[.slice none 0 0] 43)).alloc (.cells #[.pointer (some ⟨L, 0, none⟩)] 24)).alloc (.cells #[.int .i64 0] 3)) := ((Ext.alloc1 _ _).alloc _).alloc _
  have c0 : (((w.alloc (.cells #[.slice none 0 0] 43)).alloc (.cells #[.pointer (some ⟨L, 0, none⟩)] 24)).alloc (.cells #[.int .i64 0] 3)).heap[w.heap.size]? = some (.cells #[.slice none 0 0] 43) := blk_alloc (blk_alloc (blk_new _ _) _) _
  have c1 := (cells1 (blk_alloc (blk_at (w := w.alloc (.cells #[.slice none 0 0] 43)) (o := .cells #[.pointer (some ⟨L, 0, none⟩)] 24) (n := w.heap.size + 1) (by simp)) (.cells #[.int .i64 0] 3))).1
  have c2 := (cells1 (blk_at (w := (w.alloc (.cells #[.slice none 0 0] 43)).alloc (.cells #[.pointer (some ⟨L, 0, none⟩)] 24)) (o := .cells #[.int .i64 0] 3) (n := w.heap.size + 1 + 1) (by simp))).1
  refine wp_rangeFunc (n := 5) 153 _ rfl (enters_of Try.func153 (by kernel_rfl) rfl) (w.heap.size + 3)
    (sk_eachGives 4 (by omega) (HS.out.ext hx0) HG.out 0 (by omega) (w.heap.size + 1) (w.heap.size + 1 + 1) c1 c2 (fun b => w.heap.size ≤ b ∧ b ≠ w.heap.size + 1 ∧ b ≠ w.heap.size + 2) (fun b hb hk => by have := hF b hb; omega) (fun h => h.2.1 rfl) (fun h => h.2.2 rfl) _)
    hD (fun b hb => by omega) (fun _ => rfl)
    (fun pre W => Ext w W ∧ ∃ v, W.heap[w.heap.size]? = some (.cells #[v] 43) ∧ Own entC 32 W (w.heap.size + 3 + 2) (fun b => w.heap.size + 3 + 2 ≤ b) v (pre.map (·.e)))
    ?hI ⟨hx0, _, c0, Own.nil _ _ _ _ _⟩ ?round ?done
  case hI =>
    rintro pre A B ⟨hx, v, hb, ho⟩ hAB
    exact ⟨hx.then hAB (fun i hi e => by omega), v, hAB.blk hb (fun e => by omega), ho.frame hAB (fun b _ hb _ e => by omega) (fun b _ hb _ e => by omega)⟩
  case round =>
    rintro l pre ⟨e, u, x⟩ W0 W ⟨hx, v, hb, ho⟩ hxt hsz ⟨hu, hv⟩ hlen
    obtain ⟨A1, k1, m1, rfl⟩ := hu.form0
    obtain ⟨A2, k2, m2, rfl⟩ := hv.form0
    obtain ⟨A3, k3, m3, rfl⟩ := ho.form0
    have hN' : pre.length < 100000 := Nat.lt_trans hlen hN
    simp only [EV.enc]
    have Hx := Lib.hid hx
    have Hb := Lib.hid hb
    have Ho := Lib.hid ho
    have Hu := Lib.hid hu
    have Hv := Lib.hid hv
    have Hxt := Lib.hid hxt
    have hsz' := hxt.size
    have Hrow := Lib.hid ho.lt
    clear hx hb ho hu hv hxt
    gi_wp2
    refine ⟨((Out.refl _ W).alloc _), fun W2 h2 => ?_⟩
    have hW2 := h2.size
    simp only [World.size_alloc] at hW2
    obtain ⟨b0, bf⟩ := cells1 (h2.blk (blk_alloc (Hxt.out.blk Hb.out (fun f => f)) _) (fun e => by omega))
    obtain ⟨e0, e1, e2, e3, -⟩ := cells4 (h2.blk (blk_new W (.cells #[.slice A1 k1 m1, u64V e.key.seq, byteV e.key.kind, .slice A2 k2 m2] 32)) (fun e => by omega))
    have Ho2 := Lib.hid (((Ho.out.ext Hxt.out).ext (Ext.alloc1 W (.cells #[.slice A1 k1 m1, u64V e.key.seq, byteV e.key.kind, .slice A2 k2 m2] 32))).frame h2 (fun b _ hb _ e => by omega) (fun b _ hb _ e => by omega))
    have key : ∀ {G : Nat → Prop} {y : Value} {l : List UInt8}, Bs W (fun b => W0.heap.size ≤ b) y l → (∀ b, W0.heap.size ≤ b → b < W.heap.size → G b) → Bs W2 G y l := fun {G y l} hy hG => by
      have g1 : Bs W (fun b => b < W.heap.size ∧ W0.heap.size ≤ b) y l := hy.mono (fun b hb hl => ⟨hl, hb⟩) (.inl (by decide))
      have g2 := (g1.ext (Ext.alloc1 W (.cells #[.slice A1 k1 m1, u64V e.key.seq, byteV e.key.kind, .slice A2 k2 m2] 32))).out h2 (fun b _ hb e => by have := hb.2; omega)
      exact g2.mono (fun b hb _ => hG b hb.2 hb.1) (.inl (by decide))
    have Key := @key
    clear key
    have hne : ¬ (Value.slice A3 k3 m3).ownBlock = some w.heap.size := fun e => by have := (Hrow.out _ e).1; omega
    have Hne := Lib.hid hne
    have HB2 := Lib.hid (h2.blk (blk_alloc (Hxt.out.blk Hb.out (fun f => f)) _) (fun e => by omega))
    have H2 := Lib.hid h2
    have Hrow2 := Lib.hid Ho2.out.lt
    clear hne h2
    gi_wp2_with (first | (gi_at_builtin; refine wpListIn_append_one rfl (.tmp 8) (.tmp 10) 43 rfl fits32 (Ho2.out.ext (Ext.alloc1 _ _)) rfl (by simp; omega) (blk_new _ _) rfl e ⟨.slice A1 k1 m1, .slice A2 k2 m2, rfl, (Key Hu.out (fun b h1 _ => ⟨Nat.le_trans hsz h1, fun e => by have := (Hrow.out b e).2; omega⟩)).ext (Ext.alloc1 _ _), (Key Hv.out (fun b h1 _ => ⟨Nat.le_trans hsz h1, fun e => by have := (Hrow.out b e).2; omega⟩)).ext (Ext.alloc1 _ _)⟩ (by rw [List.length_map]; omega) (by decide) ?_; intro v' w' g1 g2 g3; obtain ⟨A5, k5, m5, rfl⟩ := g1.form0; obtain ⟨j0, jf⟩ := cells1 (g2.blk (blk_alloc HB2.out _) Hne.out); have G1 := Lib.hid g1; have G2 := Lib.hid g2; have G3 := Lib.hid g3; clear g1 g2 g3))
    have hob : Out (fun b => b = w.heap.size) w' (w'.setCell ⟨w.heap.size, 0, none⟩ (.slice A5 k5 m5)) := (Out.refl (fun b => b = w.heap.size) w').setCell (p := ⟨w.heap.size, 0, none⟩) (fun _ => rfl) _
    have hrow5 := G1.out.lt
    refine ⟨(((Out.refl _ W2).alloc _).then G2.out (fun i hi e => by have := (Hrow.out i e).1; omega)).setCell (p := ⟨w.heap.size, 0, none⟩) (fun _ => by simp; omega) _,
      (((((Hx.out.ext Hxt.out).alloc _).then H2.out (fun i hi e => by omega)).alloc _).then G2.out (fun i hi e => by have := (Hrow.out i e).1; omega)).setCell (p := ⟨w.heap.size, 0, none⟩) (fun h => by simp at h) _, .slice A5 k5 m5, ?_, ?_⟩
    · have := blk_set (G2.out.blk (blk_alloc HB2.out _) Hne.out) 0 (.slice A5 k5 m5)
      simpa using this
    · exact G1.out.frame hob (fun b _ hb _ e => by omega) (fun b _ hb _ e => by omega)
  case done =>
    rintro xs W hS ⟨hx, v, hb, ho⟩ hKW hdef
    obtain ⟨A3, k3, m3, rfl⟩ := ho.form0
    obtain ⟨b0, bf⟩ := cells1 hb
    have Hx := Lib.hid hx
    have Ho := Lib.hid ho
    have HSx := Lib.hid hS
    have Hdef := Lib.hid hdef
    clear hx ho hb hS hdef
    gi_wp2
    refine ⟨by simp, .inl ⟨_, _, rfl, run_takeDeferred Hdef.out, ?_⟩⟩
    refine ⟨_, results_tmp rfl _ _ _, _, rfl, Hx.out.then (out_putObj _ _ _) (fun i hi e => by omega), ?_⟩
    have h1 := (Ho.out.frame (out_putObj W (w.heap.size + 3) (.deferred none)) (fun b _ hb _ e => by omega) (fun b _ hb _ e => by omega)).base (B' := w.heap.size) (by omega)
    rw [HSx.out] at h1
    exact h1.mono (fun b hb _ => by omega)
theorem fits30 : Fits Try.prog 37 30 keyC.size 40 := fits_of Try.underlying37 (by decide) (by kernel_rfl : (Try.prog.info? 30).map (fun i => (i.zero, i.size, i.bytes)) = some (some (.agg #[.slice none 0 0, .int .u64 0, .int .u8 0]), 3, 40)) rfl

set_option maxRecDepth 100000 in
set_option maxHeartbeats 1000000 in
theorem sk_row0 (h : Sk w Foot L v ts size) (hg : Good ts ord) (hF : ∀ b, Foot b → b < w.heap.size) (hol : ord.length < 100000) (r : Nat) (hr : r < 8) :
    Calls Try.prog 29 #[.pointer (some ⟨L, 0, none⟩), .int .i64 ((r : Int) + 1)] w (Owned keyC 30 w ((chain ts ord r).map (keyAt ts))) := by
  refine (callsIn_wide (n := 5)).1 ?_
  have hN : (chain ts ord r).length < 100000 := Nat.lt_of_le_of_lt (List.length_filter_le _ _) hol
  refine callsIn_of_wp_marks Try.func29 rfl trivial ?_ rfl
  simp only [Try.ntmps29, List.size_toArray, List.length_cons, List.length_nil, Nat.reduceAdd, Nat.reduceSub, Array.replicate_succ, Array.replicate_zero, List.push_toArray, List.append_toArray, List.nil_append, List.cons_append]
  have HS := Lib.hid h
  have HG := Lib.hid hg
  clear h hg
  gi_wp2_with (first | (refine ⟨trivial, ?_⟩; gi_at_call 100; refine (callsIn_wide.2 (sk_each _ _ _)).mono ?_; rintro e w' ⟨rfl, rfl⟩))
  have hD : (((w.alloc (.cells #[.slice none 0 0] 37)).alloc (.cells #[.pointer (some ⟨L, 0, none⟩)] 24)).alloc (.cells #[.int .i64 (r : Int)] 3)).heap.size = w.heap.size + 3 := by simp
  have hx0 : Ext w (((w.alloc (.cells #[.slice none 0 0] 37)).alloc (.cells #[.pointer (some ⟨L, 0, none⟩)] 24)).alloc (.cells #[.int .i64 (r : Int)] 3)) := ((Ext.alloc1 _ _).alloc _).alloc _
  have c0 : (((w.alloc (.cells #[.slice none 0 0] 37)).alloc (.cells #[.pointer (some ⟨L, 0, none⟩)] 24)).alloc (.cells #[.int .i64 (r : Int)] 3)).heap[w.heap.size]? = some (.cells #[.slice none 0 0] 37) := blk_alloc (blk_alloc (blk_new _ _) _) _
  have c1 := (cells1 (blk_alloc (blk_at (w := w.alloc (.cells #[.slice none 0 0] 37)) (o := .cells #[.pointer (some ⟨L, 0, none⟩)] 24) (n := w.heap.size + 1) (by simp)) (.cells #[.int .i64 (r : Int)] 3))).1
  have c2 := (cells1 (blk_at (w := (w.alloc (.cells #[.slice none 0 0] 37)).alloc (.cells #[.pointer (some ⟨L, 0, none⟩)] 24)) (o := .cells #[.int .i64 (r : Int)] 3) (n := w.heap.size + 1 + 1) (by simp))).1
  refine wp_rangeFunc (n := 5) 153 _ rfl (enters_of Try.func153 (by kernel_rfl) rfl) (w.heap.size + 3)
    (sk_eachGives 4 (by omega) (HS.out.ext hx0) HG.out r hr (w.heap.size + 1) (w.heap.size + 1 + 1) c1 c2 (fun b => w.heap.size ≤ b ∧ b ≠ w.heap.size + 1 ∧ b ≠ w.heap.size + 2) (fun b hb hk => by have := hF b hb; omega) (fun h => h.2.1 rfl) (fun h => h.2.2 rfl) _)
    hD (fun b hb => by omega) (fun _ => rfl)
    (fun pre W => Ext w W ∧ ∃ v, W.heap[w.heap.size]? = some (.cells #[v] 37) ∧ Own keyC 30 W (w.heap.size + 3 + 2) (fun b => w.heap.size + 3 + 2 ≤ b) v (pre.map (·.e.key)))
    ?hI ⟨hx0, _, c0, Own.nil _ _ _ _ _⟩ ?round ?done
  case hI =>
    rintro pre A B ⟨hx, v, hb, ho⟩ hAB
    exact ⟨hx.then hAB (fun i hi e => by omega), v, hAB.blk hb (fun e => by omega), ho.frame hAB (fun b _ hb _ e => by omega) (fun b _ hb _ e => by omega)⟩
  case round =>
    rintro l pre ⟨e, u, x⟩ W0 W ⟨hx, v, hb, ho⟩ hxt hsz ⟨hu, hv⟩ hlen
    obtain ⟨A1, k1, m1, rfl⟩ := hu.form0
    obtain ⟨A2, k2, m2, rfl⟩ := hv.form0
    obtain ⟨A3, k3, m3, rfl⟩ := ho.form0
    have hN' : pre.length < 100000 := Nat.lt_trans hlen hN
    simp only [EV.enc]
    have Hx := Lib.hid hx
    have Hb := Lib.hid hb
    have Ho := Lib.hid ho
    have Hu := Lib.hid hu
    have Hv := Lib.hid hv
    have Hxt := Lib.hid hxt
    have hsz' := hxt.size
    have Hrow := Lib.hid ho.lt
    clear hx hb ho hu hv hxt
    gi_wp2
    refine ⟨((Out.refl _ W).alloc _), fun W2 h2 => ?_⟩
    have hW2 := h2.size
    simp only [World.size_alloc] at hW2
    obtain ⟨b0, bf⟩ := cells1 (h2.blk (blk_alloc (Hxt.out.blk Hb.out (fun f => f)) _) (fun e => by omega))
    obtain ⟨e0, e1, e2, e3, -⟩ := cells4 (h2.blk (blk_new W (.cells #[.slice A1 k1 m1, u64V e.key.seq, byteV e.key.kind, .slice A2 k2 m2] 32)) (fun e => by omega))
    have Ho2 := Lib.hid (((Ho.out.ext Hxt.out).ext (Ext.alloc1 W (.cells #[.slice A1 k1 m1, u64V e.key.seq, byteV e.key.kind, .slice A2 k2 m2] 32))).frame h2 (fun b _ hb _ e => by omega) (fun b _ hb _ e => by omega))
    have key : ∀ {G : Nat → Prop} {y : Value} {l : List UInt8}, Bs W (fun b => W0.heap.size ≤ b) y l → (∀ b, W0.heap.size ≤ b → b < W.heap.size → G b) → Bs W2 G y l := fun {G y l} hy hG => by
      have g1 : Bs W (fun b => b < W.heap.size ∧ W0.heap.size ≤ b) y l := hy.mono (fun b hb hl => ⟨hl, hb⟩) (.inl (by decide))
      have g2 := (g1.ext (Ext.alloc1 W (.cells #[.slice A1 k1 m1, u64V e.key.seq, byteV e.key.kind, .slice A2 k2 m2] 32))).out h2 (fun b _ hb e => by have := hb.2; omega)
      exact g2.mono (fun b hb _ => hG b hb.2 hb.1) (.inl (by decide))
    have Key := @key
    clear key
    have hne : ¬ (Value.slice A3 k3 m3).ownBlock = some w.heap.size := fun e => by have := (Hrow.out _ e).1; omega
    have Hne := Lib.hid hne
    have HB2 := Lib.hid (h2.blk (blk_alloc (Hxt.out.blk Hb.out (fun f => f)) _) (fun e => by omega))
    have H2 := Lib.hid h2
    have Hrow2 := Lib.hid Ho2.out.lt
    clear hne h2
    gi_wp2_with (first | (gi_at_builtin; refine wpListIn_append_one rfl (.tmp 18) (.tmp 21) 37 rfl fits30 (Ho2.out.ext (Ext.alloc1 _ _)) rfl (by simp; omega) (blk_new _ _) rfl e.key ⟨.slice A1 k1 m1, rfl, (Key Hu.out (fun b h1 _ => ⟨Nat.le_trans hsz h1, fun e => by have := (Hrow.out b e).2; omega⟩)).ext (Ext.alloc1 _ _)⟩ (by rw [List.length_map]; omega) (by decide) ?_; intro v' w' g1 g2 g3; obtain ⟨A5, k5, m5, rfl⟩ := g1.form0; obtain ⟨j0, jf⟩ := cells1 (g2.blk (blk_alloc HB2.out _) Hne.out); have G1 := Lib.hid g1; have G2 := Lib.hid g2; have G3 := Lib.hid g3; clear g1 g2 g3))
    have hob : Out (fun b => b = w.heap.size) w' (w'.setCell ⟨w.heap.size, 0, none⟩ (.slice A5 k5 m5)) := (Out.refl (fun b => b = w.heap.size) w').setCell (p := ⟨w.heap.size, 0, none⟩) (fun _ => rfl) _
    have hrow5 := G1.out.lt
    refine ⟨(((Out.refl _ W2).alloc _).then G2.out (fun i hi e => by have := (Hrow.out i e).1; omega)).setCell (p := ⟨w.heap.size, 0, none⟩) (fun _ => by simp; omega) _,
      (((((Hx.out.ext Hxt.out).alloc _).then H2.out (fun i hi e => by omega)).alloc _).then G2.out (fun i hi e => by have := (Hrow.out i e).1; omega)).setCell (p := ⟨w.heap.size, 0, none⟩) (fun h => by simp at h) _, .slice A5 k5 m5, ?_, ?_⟩
    · have := blk_set (G2.out.blk (blk_alloc HB2.out _) Hne.out) 0 (.slice A5 k5 m5)
      simpa using this
    · exact G1.out.frame hob (fun b _ hb _ e => by omega) (fun b _ hb _ e => by omega)
  case done =>
    rintro xs W hS ⟨hx, v, hb, ho⟩ hKW hdef
    obtain ⟨A3, k3, m3, rfl⟩ := ho.form0
    obtain ⟨b0, bf⟩ := cells1 hb
    have Hx := Lib.hid hx
    have Ho := Lib.hid ho
    have HSx := Lib.hid hS
    have Hdef := Lib.hid hdef
    clear hx ho hb hS hdef
    gi_wp2
    refine ⟨by simp, .inl ⟨_, _, rfl, run_takeDeferred Hdef.out, ?_⟩⟩
    refine ⟨_, results_tmp rfl _ _ _, _, rfl, Hx.out.then (out_putObj _ _ _) (fun i hi e => by omega), ?_⟩
    have h1 := (Ho.out.frame (out_putObj W (w.heap.size + 3) (.deferred none)) (fun b _ hb _ e => by omega) (fun b _ hb _ e => by omega)).base (B' := w.heap.size) (by omega)
    have hk : xs.map (·.e.key) = (chain ts ord r).map (keyAt ts) := by
      have h2 : xs.map (·.e.key) = (xs.map (·.e)).map (·.key) := by rw [List.map_map]; rfl
      rw [h2, HSx.out, List.map_map]
      exact List.map_congr_left fun i hi => (HG.out.ent (mem_chain.1 hi).1).symm
    rw [hk] at h1
    exact h1.mono (fun b hb _ => by omega)

set_option maxHeartbeats 400000 in
theorem sk_rowOut (w : World) (p : Option Addr) (h : Int) (hh : h < 1 ∨ 8 < h) : Calls Try.prog 29 #[.pointer p, .int .i64 h] w fun e w' => e = .returned (.slice none 0 0) ∧ w = w' := by
  by_cases h1 : h < 1
  · clear hh
    go_enter Try.func29, Try.ntmps29
    go_wp2
    go_ret
    exact ⟨rfl, rfl⟩
  · have h2 : 8 < h := by omega
    clear hh
    go_enter Try.func29, Try.ntmps29
    go_wp2
    go_ret
    exact ⟨rfl, rfl⟩

variable {m : List (Ent × Nat)}
theorem SkM.len (h : SkM w Foot L m) : m.length < 99999 := by
  obtain ⟨v, ts, ord, h1, h2, h3, h4, h5⟩ := h
  have := h1.small; omega
theorem sk_allM (h : SkM w Foot L m) : Calls Try.prog 33 #[.pointer (some ⟨L, 0, none⟩)] w (Owned entC 32 w (m.map (·.1))) := by
  have hl := h.len
  obtain ⟨v, ts, ord, h1, h2, rfl, h4, h5⟩ := h
  have hS' := h1.mono (G := fun b => Foot b ∧ b < w.heap.size) fun b hb hf => ⟨hf, hb⟩
  have hol : ord.length < 100000 := by unfold model at hl; rw [List.length_map] at hl; omega
  have := sk_all0 hS' h2 (fun b hb => hb.2) hol
  rw [good_chain0 h2 (fun _ h => h)] at this
  rw [model_fst]; exact this
theorem sk_rowM (h : SkM w Foot L m) (r : Nat) (hr : r < 8) : Calls Try.prog 29 #[.pointer (some ⟨L, 0, none⟩), .int .i64 ((r : Int) + 1)] w (Owned keyC 30 w (rowM m (r + 1))) := by
  have hl := h.len
  obtain ⟨v, ts, ord, h1, h2, rfl, h4, h5⟩ := h
  have hS' := h1.mono (G := fun b => Foot b ∧ b < w.heap.size) fun b hb hf => ⟨hf, hb⟩
  have hol : ord.length < 100000 := by unfold model at hl; rw [List.length_map] at hl; omega
  have := sk_row0 hS' h2 (fun b hb => hb.2) hol r hr
  have e : rowM (model ts ord) (r + 1) = (chain ts ord r).map (keyAt ts) := by
    unfold rowM model chain
    rw [List.filter_map, List.map_map]
    have : (ord.filter ((fun x : Ent × Nat => decide (r + 1 ≤ x.2)) ∘ fun i => (entAt ts i, hgt ts i))) = ord.filter fun i => decide (r < hgt ts i) := by
      apply List.filter_congr
      intro i _
      rfl
    rw [this]
    exact List.map_congr_left fun i hi => (h2.ent (List.mem_filter.1 hi).1).symm
  rw [e]; exact this
end Go.Proofs.Yteaanagljmcidaa

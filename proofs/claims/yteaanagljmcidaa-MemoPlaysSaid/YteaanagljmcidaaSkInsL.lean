/- skip: Insert, the stores into the list, in memory. -/
import Derived.Test.YteaanagljmcidaaSkInsB
namespace Go.Proofs.Yteaanagljmcidaa
open Go.RowKit

variable {w w1 : World} {Foot : Nat → Prop} {L : Nat} {v : Value} {ts : List Tw} {size : Int}

theorem Own.congr {α : Type} {c : Codec α} {e : TypeId} {B : Nat} {F : Nat → Prop} {l l' : List α} (h : Own c e w B F v l) (hl : l'.length = l.length)
    (hr : ∀ i (h1 : i < l.length) (h2 : i < l'.length) cs G, c.rep w G cs l[i] → c.rep w G cs l'[i]) : Own c e w B F v l' := by
  obtain ⟨xs, ho, he⟩ := h
  refine ⟨xs, by rw [hl]; exact ho, fun i hi => ?_⟩
  obtain ⟨cs, hc, hp⟩ := he i (by omega)
  exact ⟨cs, hc, hr i (by omega) hi cs _ hp⟩

theorem setNx_T (ts : List Tw) (p r n : Nat) : (setNx ts p r n).map (·.T) = ts.map (·.T) := by
  apply List.ext_getElem?
  intro j
  rw [List.getElem?_map, List.getElem?_map, setNx_get]
  split
  · cases ts[j]? <;> rfl
  · rfl
theorem priv_iff {b : Nat} : Priv L ts b ↔ b = L ∨ b ∈ ts.map (·.T) := by
  unfold Priv
  rw [List.mem_map]
  constructor
  · rintro (h | ⟨t, h1, h2⟩)
    · exact .inl h
    · exact .inr ⟨t, h1, h2.symm⟩
  · rintro (h | ⟨t, h1, h2⟩)
    · exact .inl h
    · exact .inr ⟨t, h1, h2.symm⟩
theorem priv_setNx {p r n b : Nat} : Priv L (setNx ts p r n) b ↔ Priv L ts b := by rw [priv_iff, priv_iff, setNx_T]

theorem T_inj (hn : (ts.map (·.T)).Nodup) {i j : Nat} (hi : i < ts.length) (hj : j < ts.length) (h : ts[i].T = ts[j].T) : i = j := by
  have hp := List.pairwise_iff_getElem.1 hn
  rcases Nat.lt_trichotomy i j with hlt | he | hlt
  · exact absurd (by rw [List.getElem_map, List.getElem_map]; exact h) (hp i j (by simpa using hi) (by simpa using hj) hlt)
  · exact he
  · exact absurd (by rw [List.getElem_map, List.getElem_map]; exact h.symm) (hp j i (by simpa using hj) (by simpa using hi) hlt)

/-- A store into a tower's 'next'. -/
theorem Sk.setNx (h : Sk w Foot L v ts size) (p : Nat) (hp : p < ts.length) (r n : Nat) : Sk (w.setCell ⟨ts[p].T, r, none⟩ (.int .i64 (n : Int))) Foot L v (Yteaanagljmcidaa.setNx ts p r n) size := by
  have hpm := h.next ts[p] (List.getElem_mem hp)
  have ho : Out (fun b => b = ts[p].T) w (w.setCell ⟨ts[p].T, r, none⟩ (.int .i64 (n : Int))) := (Out.refl (fun b => b = ts[p].T) w).setCell (p := ⟨ts[p].T, r, none⟩) (fun _ => rfl) _
  have hpriv : Priv L ts ts[p].T := .inr ⟨_, List.getElem_mem hp, rfl⟩
  refine ⟨ho.blk h.head (fun e => hpm.2.1 e.symm), ?_, h.footL, fun k hk => ?_, fun t ht => ?_, by rw [setNx_T]; exact h.nodup, by rw [setNx_length]; exact h.pos, by rw [setNx_length]; exact h.small⟩
  · have h1 := h.own.frame ho (fun b _ _ hb e => (h.row b hb).2 (e ▸ hpriv)) (fun b _ hb _ e => hb.2 (e ▸ hpriv))
    have h2 := h1.mono (G := fun b => Foot b ∧ ¬ Priv L (Yteaanagljmcidaa.setNx ts p r n) b) (fun b hb _ => ⟨hb.1, fun hh => hb.2 (priv_setNx.1 hh)⟩)
    refine h2.congr (setNx_length _ _ _ _) fun i h3 h4 cs G hr => ?_
    have hg := setNx_get ts p r n i
    rw [List.getElem?_eq_getElem h4, List.getElem?_eq_getElem h3] at hg
    by_cases hpi : p = i
    · rw [if_pos hpi] at hg
      injection hg with hg
      rw [hg]
      obtain ⟨u, x, e1, e2, e3⟩ := hr
      exact ⟨u, x, by rw [e1]; simp, e2, e3⟩
    · rw [if_neg hpi] at hg
      injection hg with hg
      rw [hg]; exact hr
  · exact ⟨(h.row k hk).1, fun hh => (h.row k hk).2 (priv_setNx.1 hh)⟩
  · obtain ⟨i, hi, rfl⟩ := List.getElem_of_mem ht
    have hi' : i < ts.length := by rw [setNx_length] at hi; exact hi
    have hg := setNx_get ts p r n i
    rw [List.getElem?_eq_getElem hi, List.getElem?_eq_getElem hi'] at hg
    have hin := h.next ts[i] (List.getElem_mem hi')
    by_cases hpi : p = i
    · subst hpi
      rw [if_pos rfl] at hg
      injection hg with hg
      rw [hg]
      refine ⟨hin.1, hin.2.1, ?_⟩
      have := blk_set hin.2.2 r (.int .i64 (n : Int))
      rw [nxV_set] at this
      exact this
    · rw [if_neg hpi] at hg
      injection hg with hg
      rw [hg]
      exact ⟨hin.1, hin.2.1, ho.blk hin.2.2 (fun e => hpi (T_inj h.nodup hi' hp e).symm)⟩

/-- The size is stored. -/
theorem Sk.setSize (h : Sk w Foot L v ts size) (s : Int) : Sk (w.setCell ⟨L, 1, none⟩ (.int .i64 s)) Foot L v ts s := by
  have ho : Out (fun b => b = L) w (w.setCell ⟨L, 1, none⟩ (.int .i64 s)) := (Out.refl (fun b => b = L) w).setCell (p := ⟨L, 1, none⟩) (fun _ => rfl) _
  have hpriv : Priv L ts L := .inl rfl
  refine ⟨?_, h.own.frame ho (fun b _ _ hb e => (h.row b hb).2 (e ▸ hpriv)) (fun b _ hb _ e => hb.2 (e ▸ hpriv)), h.footL, h.row, fun t ht => ⟨(h.next t ht).1, (h.next t ht).2.1, ho.blk (h.next t ht).2.2 (h.next t ht).2.1⟩, h.nodup, h.pos, h.small⟩
  have := blk_set h.head 1 (.int .i64 s)
  simpa using this

/-- A tower is appended. -/
theorem Sk.push (h : Sk w Foot L v ts size) {B : Nat} (hF : ∀ b, Foot b → b < B) (hB : B ≤ w.heap.size) (ho : Out (fun k => v.ownBlock = some k) w w1) {tw : Tw} (hT : B ≤ tw.T) (hblk : w.heap[tw.T]? = some (.cells (nxV tw.nx) 3)) {v' : Value}
    (hown : Own towC 143 w1 0 (fun b => (Foot b ∨ B ≤ b) ∧ ¬ Priv L (ts ++ [tw]) b) v' (ts ++ [tw])) (hv : v'.ownBlock = v.ownBlock ∨ v'.ownBlock = some w.heap.size) (hsm : ts.length + 1 < 100000) :
    Sk (w1.setCell ⟨L, 0, none⟩ v') (fun b => Foot b ∨ B ≤ b) L v' (ts ++ [tw]) size := by
  have ho2 : Out (fun b => b = L) w1 (w1.setCell ⟨L, 0, none⟩ v') := (Out.refl (fun b => b = L) w1).setCell (p := ⟨L, 0, none⟩) (fun _ => rfl) _
  have hpriv : Priv L (ts ++ [tw]) L := .inl rfl
  have hLB := hF L h.footL
  have hrow : ∀ k, v'.ownBlock = some k → (Foot k ∨ B ≤ k) ∧ ¬ Priv L (ts ++ [tw]) k := fun k hk => by
    rcases hv with e | e
    · rw [e] at hk
      obtain ⟨h1, h2⟩ := h.row k hk
      refine ⟨.inl h1, ?_⟩
      rintro (e1 | ⟨t, ht, e1⟩)
      · exact h2 (.inl e1)
      · rcases List.mem_append.1 ht with ht | ht
        · exact h2 (.inr ⟨t, ht, e1⟩)
        · obtain rfl : t = tw := by simpa using ht
          have := hF k h1; omega
    · rw [e] at hk
      injection hk with hk
      subst hk
      refine ⟨.inr hB, ?_⟩
      rintro (e1 | ⟨t, ht, e1⟩)
      · omega
      · rcases List.mem_append.1 ht with ht | ht
        · have := blk_lt (h.next t ht).2.2; omega
        · obtain rfl : t = tw := by simpa using ht
          have := blk_lt hblk; omega
  have hne : ∀ b, Priv L ts b → ¬ v.ownBlock = some b := fun b hb e => (h.row b e).2 hb
  refine ⟨?_, hown.frame ho2 (fun b _ _ hb e => (hrow b hb).2 (e ▸ hpriv)) (fun b _ hb _ e => hb.2 (e ▸ hpriv)), .inl h.footL, hrow, fun t ht => ?_, ?_, by simp, by simpa using hsm⟩
  · have h1 := ho.blk h.head (hne L (.inl rfl))
    have := blk_set h1 0 v'
    simpa using this
  · rcases List.mem_append.1 ht with ht | ht
    · obtain ⟨g1, g2, g3⟩ := h.next t ht
      exact ⟨.inl g1, g2, ho2.blk (ho.blk g3 (hne _ (.inr ⟨t, ht, rfl⟩))) g2⟩
    · obtain rfl : t = tw := by simpa using ht
      refine ⟨.inr hT, by omega, ho2.blk (ho.blk hblk ?_) (by omega)⟩
      intro e
      have := hF _ (h.row _ e).1
      omega
  · rw [List.map_append, List.nodup_append]
    refine ⟨h.nodup, by simp, fun a ha b hb e => ?_⟩
    obtain ⟨t, ht, rfl⟩ := List.mem_map.1 ha
    have hb' : b = tw.T := by simpa using hb
    subst hb'
    have := hF _ (h.next t ht).1
    omega

theorem fits143 : Fits Try.prog 144 143 towC.size 88 := fits_of Try.underlying144 (by decide) (by kernel_rfl : (Try.prog.info? 143).map (fun i => (i.zero, i.size, i.bytes)) = some (some (.agg #[.slice none 0 0, .int .u64 0, .int .u8 0, .slice none 0 0, .slice none 0 0]), 5, 88)) rfl

/-- The old towers, and what they lean on, stand apart from the new one's. -/
theorem Sk.ownMore (h : Sk w Foot L v ts size) {B : Nat} (hF : ∀ b, Foot b → b < B) {tw : Tw} (hT : B ≤ tw.T) : Own towC 143 w 0 (fun b => (Foot b ∨ B ≤ b) ∧ ¬ Priv L (ts ++ [tw]) b) v ts :=
  h.own.mono fun b hb _ => ⟨.inl hb.1, by
    rintro (e1 | ⟨t, ht, e1⟩)
    · exact hb.2 (.inl e1)
    · rcases List.mem_append.1 ht with ht | ht
      · exact hb.2 (.inr ⟨t, ht, e1⟩)
      · obtain rfl : t = tw := by simpa using ht
        have := hF b hb.1; omega⟩
variable {w wr w1 : World} {Foot F : Nat → Prop} {L : Nat} {v : Value} {ts : List Tw} {size : Int} {u x : Value} {e : Ent} {ord : List Nat}

theorem blk_at2D {w : World} {o o' : Obj} {n : Nat} (h : w.heap.size = n) : ((w.alloc o).alloc o').drew.heap[n]? = some o := blk_alloc (blk_at h) o'

/-- The block of the path. -/
def pathV (ts : List Tw) (ord : List Nat) (k : Key) : Array Value :=
  #[nV (pathAt ts ord k 0), nV (pathAt ts ord k 1), nV (pathAt ts ord k 2), nV (pathAt ts ord k 3), nV (pathAt ts ord k 4), nV (pathAt ts ord k 5), nV (pathAt ts ord k 6), nV (pathAt ts ord k 7)]

/-- Behind the looking for the place. -/
structure InsC (w wr : World) (Foot F : Nat → Prop) (L : Nat) (v : Value) (ts : List Tw) (size : Int) (u x : Value) (e : Ent) (ord : List Nat) (pb : Nat) : Prop extends InsA w wr Foot F L v ts size u x e where
  pos : w.heap.size < pb
  path : wr.heap[pb]? = some (.cells (pathV ts ord e.key) 148)

theorem InsC.step {pb : Nat} (h : InsC w wr Foot F L v ts size u x e ord pb) (hx : Ext wr w1) : InsC w w1 Foot F L v ts size u x e ord pb :=
  { h.toInsA.step hx with pos := h.pos, path := hx.blk h.path (fun f => f) }

/-- Behind the making of the tower, at tb, its 'next' at T. -/
structure InsD (w wr : World) (Foot F : Nat → Prop) (L : Nat) (v : Value) (ts : List Tw) (size : Int) (u x : Value) (e : Ent) (ord : List Nat) (pb tb T : Nat) (u' x' : Value) (nx : List Nat) : Prop extends InsC w wr Foot F L v ts size u x e ord pb where
  tow : wr.heap[tb]? = some (.cells #[u', u64V e.key.seq, byteV e.key.kind, x', .slice (some ⟨T, 0, none⟩) nx.length nx.length] 143)
  nxt : wr.heap[T]? = some (.cells (nxV nx) 3)
  ptb : pb < tb
  pT : pb < T
  bu' : Bs wr (fun b => pb < b ∧ b ≠ tb ∧ b ≠ T) u' e.key.user
  bx' : Bs wr (fun b => pb < b ∧ b ≠ tb ∧ b ≠ T) x' e.value

theorem blk_set5 {w : World} {g : Nat} {a b c d e : Value} {t : TypeId} (h : w.heap[g]? = some (.cells #[a, b, c, d, e] t)) (x y z u v : Value) :
    (((((w.setCell ⟨g, 0, none⟩ x).setCell ⟨g, 1, none⟩ y).setCell ⟨g, 2, none⟩ z).setCell ⟨g, 3, none⟩ u).setCell ⟨g, 4, none⟩ v).heap[g]? = some (.cells #[x, y, z, u, v] t) := by
  have := blk_set (blk_set (blk_set (blk_set (blk_set h 0 x) 1 y) 2 z) 3 u) 4 v
  simpa using this
theorem out_set5 {S : Nat → Prop} {w w' : World} (h : Out S w w') {g : Nat} (hg : g < w.heap.size → S g) (x y z u v : Value) :
    Out S w (((((w'.setCell ⟨g, 0, none⟩ x).setCell ⟨g, 1, none⟩ y).setCell ⟨g, 2, none⟩ z).setCell ⟨g, 3, none⟩ u).setCell ⟨g, 4, none⟩ v) := ((((h.setCell hg x).setCell hg y).setCell hg z).setCell hg u).setCell hg v

theorem InsD.of {pb tb T ht : Nat} {u' x' : Value} {wc W : World} (hC : InsC w wc Foot F L v ts size u x e ord pb) (hx : Ext wc W)
    (tow : W.heap[tb]? = some (.cells #[u', u64V e.key.seq, byteV e.key.kind, x', .slice (some ⟨T, 0, none⟩) ht ht] 143)) (nxt : W.heap[T]? = some (.cells (nxV (List.replicate ht 0)) 3)) (htb : wc.heap.size ≤ tb) (hT : wc.heap.size ≤ T)
    (bu : Bs W (fun b => wc.heap.size ≤ b ∧ b ≠ tb ∧ b ≠ T) u' e.key.user) (bx : Bs W (fun b => wc.heap.size ≤ b ∧ b ≠ tb ∧ b ≠ T) x' e.value) :
    InsD w W Foot F L v ts size u x e ord pb tb T u' x' (List.replicate ht 0) :=
  have hp := blk_lt hC.path
  { hC.step hx with
    tow := by rw [List.length_replicate]; exact tow
    nxt := nxt
    ptb := by omega
    pT := by omega
    bu' := bu.mono (fun b hb _ => ⟨by omega, hb.2⟩) (.inl (by decide))
    bx' := bx.mono (fun b hb _ => ⟨by omega, hb.2⟩) (.inl (by decide)) }

/-- The bytes of a fresh copy, behind more steps. -/
theorem Bs.later {wc w4 W : World} {n tb T : Nat} {v : Value} {l : List UInt8} {S : Nat → Prop} (h : Bs w4 (fun b => n ≤ b) v l) (hn : wc.heap.size ≤ n) (ho : Out S w4 W) (hS : ∀ b, n ≤ b → b < w4.heap.size → ¬ S b ∧ b ≠ tb ∧ b ≠ T) : Bs W (fun b => wc.heap.size ≤ b ∧ b ≠ tb ∧ b ≠ T) v l := by
  have h1 : Bs w4 (fun b => (wc.heap.size ≤ b ∧ b ≠ tb ∧ b ≠ T) ∧ ¬ S b) v l := h.mono (fun b hb hl => ⟨⟨by omega, (hS b hb hl).2⟩, (hS b hb hl).1⟩) (.inl (by decide))
  exact (h1.out ho fun b _ hb => hb.2).mono (fun b hb _ => hb.1) (.inl (by decide))


abbrev nxO (ht : Nat) : Obj := .cells (nxV (List.replicate ht 0)) 3
abbrev z0O : Obj := .cells #[Value.slice none 0 0, Value.int IntKind.u64 0, Value.int IntKind.u8 0, Value.slice none 0 0, Value.slice none 0 0] 143
abbrev towO (u' x' : Value) (e : Ent) (T ht : Nat) : Obj := .cells #[u', u64V e.key.seq, byteV e.key.kind, x', .slice (some ⟨T, 0, none⟩) ht ht] 143

section
variable {wc w4 : World} {pb ht : Nat} {u' x' : Value} (hC : InsC w wc Foot F L v ts size u x e ord pb)
include hC

theorem ins_k1 (hx4 : Ext wc.drew w4) (hb1 : Bs w4 (fun b => wc.drew.heap.size ≤ b) u' e.key.user) (hb2 : Bs w4 (fun b => wc.drew.heap.size ≤ b) x' e.value) :
    InsD w ((w4.alloc (nxO ht)).alloc (towO u' x' e w4.heap.size ht)) Foot F L v ts size u x e ord pb (w4.heap.size + 1) w4.heap.size u' x' (List.replicate ht 0) := by
  have hsz : wc.heap.size ≤ w4.heap.size := hx4.size
  have hcx : Ext wc w4 := (Out.refl _ wc).drew.trans hx4
  exact InsD.of hC ((hcx.alloc _).alloc _) (blk_at (by simp)) (blk_alloc (blk_new _ _) _) (by omega) (by omega) (hb1.later (n := wc.heap.size) (S := fun _ => False) (by omega) ((Ext.alloc1 _ _).alloc _) (fun b _ h => ⟨fun f => f, by omega, by omega⟩)) (hb2.later (n := wc.heap.size) (S := fun _ => False) (by omega) ((Ext.alloc1 _ _).alloc _) (fun b _ h => ⟨fun f => f, by omega, by omega⟩))
theorem ins_k2 (hx4 : Ext wc.drew w4) (hb1 : Bs w4 (fun b => wc.drew.heap.size ≤ b) u' e.key.user) (hb2 : Bs w4 (fun b => wc.drew.heap.size ≤ b) x' e.value) :
    InsD w ((w4.alloc (towO u' x' e (w4.heap.size + 1) ht)).alloc (nxO ht)) Foot F L v ts size u x e ord pb w4.heap.size (w4.heap.size + 1) u' x' (List.replicate ht 0) := by
  have hsz : wc.heap.size ≤ w4.heap.size := hx4.size
  have hcx : Ext wc w4 := (Out.refl _ wc).drew.trans hx4
  exact InsD.of hC ((hcx.alloc _).alloc _) (blk_alloc (blk_new _ _) _) (blk_at (by simp)) (by omega) (by omega) (hb1.later (n := wc.heap.size) (S := fun _ => False) (by omega) ((Ext.alloc1 _ _).alloc _) (fun b _ h => ⟨fun f => f, by omega, by omega⟩)) (hb2.later (n := wc.heap.size) (S := fun _ => False) (by omega) ((Ext.alloc1 _ _).alloc _) (fun b _ h => ⟨fun f => f, by omega, by omega⟩))
theorem ins_k3 (hx4 : Ext (wc.alloc (nxO ht)).drew w4) (hb1 : Bs w4 (fun b => (wc.alloc (nxO ht)).drew.heap.size ≤ b) u' e.key.user) (hb2 : Bs w4 (fun b => (wc.alloc (nxO ht)).drew.heap.size ≤ b) x' e.value) :
    InsD w (w4.alloc (towO u' x' e wc.heap.size ht)) Foot F L v ts size u x e ord pb w4.heap.size wc.heap.size u' x' (List.replicate ht 0) := by
  have e1 : (wc.alloc (nxO ht)).drew.heap.size = wc.heap.size + 1 := by simp
  have hsz := hx4.size
  rw [e1] at hsz hb1 hb2
  have hcx : Ext wc w4 := (Ext.alloc1 wc _).drew.trans hx4
  exact InsD.of hC (hcx.alloc _) (blk_new _ _) (blk_alloc (hx4.blk (blk_atD rfl) (fun f => f)) _) (by omega) (by omega) (hb1.later (S := fun _ => False) (by omega) (Ext.alloc1 _ _) (fun b _ h => ⟨fun f => f, by omega, by omega⟩)) (hb2.later (S := fun _ => False) (by omega) (Ext.alloc1 _ _) (fun b _ h => ⟨fun f => f, by omega, by omega⟩))
theorem ins_k4 (hx4 : Ext ((wc.alloc (nxO ht)).alloc z0O).drew w4) (hb1 : Bs w4 (fun b => ((wc.alloc (nxO ht)).alloc z0O).drew.heap.size ≤ b) u' e.key.user) (hb2 : Bs w4 (fun b => ((wc.alloc (nxO ht)).alloc z0O).drew.heap.size ≤ b) x' e.value) :
    InsD w (((((w4.setCell ⟨wc.heap.size + 1, 0, none⟩ u').setCell ⟨wc.heap.size + 1, 1, none⟩ (u64V e.key.seq)).setCell ⟨wc.heap.size + 1, 2, none⟩ (byteV e.key.kind)).setCell ⟨wc.heap.size + 1, 3, none⟩ x').setCell ⟨wc.heap.size + 1, 4, none⟩ (.slice (some ⟨wc.heap.size, 0, none⟩) ht ht))
      Foot F L v ts size u x e ord pb (wc.heap.size + 1) wc.heap.size u' x' (List.replicate ht 0) := by
  have e1 : ((wc.alloc (nxO ht)).alloc z0O).drew.heap.size = wc.heap.size + 1 + 1 := by simp
  have hsz := hx4.size
  rw [e1] at hsz hb1 hb2
  have hcx : Ext wc w4 := ((Ext.alloc1 wc _).alloc _).drew.trans hx4
  have jb := hx4.blk (o := z0O) (g := wc.heap.size + 1) (blk_atD (by simp)) (fun f => f)
  have jn := hx4.blk (o := nxO ht) (g := wc.heap.size) (blk_alloc (blk_new _ _) _) (fun f => f)
  have ho := out_set5 (S := fun b => b = wc.heap.size + 1) (Out.refl _ w4) (g := wc.heap.size + 1) (fun _ => rfl) u' (u64V e.key.seq) (byteV e.key.kind) x' (.slice (some ⟨wc.heap.size, 0, none⟩) ht ht)
  exact InsD.of hC (out_set5 hcx (by omega) _ _ _ _ _) (blk_set5 jb _ _ _ _ _) (ho.blk jn (by omega)) (by omega) (by omega) (hb1.later (by omega) ho (fun b _ h => ⟨by omega, by omega, by omega⟩)) (hb2.later (by omega) ho (fun b _ h => ⟨by omega, by omega, by omega⟩))
theorem ins_k5 (hx4 : Ext (wc.alloc z0O).drew w4) (hb1 : Bs w4 (fun b => (wc.alloc z0O).drew.heap.size ≤ b) u' e.key.user) (hb2 : Bs w4 (fun b => (wc.alloc z0O).drew.heap.size ≤ b) x' e.value) :
    InsD w ((((((w4.alloc (nxO ht)).setCell ⟨wc.heap.size, 0, none⟩ u').setCell ⟨wc.heap.size, 1, none⟩ (u64V e.key.seq)).setCell ⟨wc.heap.size, 2, none⟩ (byteV e.key.kind)).setCell ⟨wc.heap.size, 3, none⟩ x').setCell ⟨wc.heap.size, 4, none⟩ (.slice (some ⟨w4.heap.size, 0, none⟩) ht ht))
      Foot F L v ts size u x e ord pb wc.heap.size w4.heap.size u' x' (List.replicate ht 0) := by
  have e1 : (wc.alloc z0O).drew.heap.size = wc.heap.size + 1 := by simp
  have hsz := hx4.size
  rw [e1] at hsz hb1 hb2
  have hcx : Ext wc w4 := (Ext.alloc1 wc _).drew.trans hx4
  have jb := blk_alloc (hx4.blk (o := z0O) (g := wc.heap.size) (blk_atD rfl) (fun f => f)) (nxO ht)
  have ho := out_set5 (S := fun b => b = wc.heap.size) ((Out.refl _ w4).alloc (nxO ht)) (g := wc.heap.size) (fun _ => rfl) u' (u64V e.key.seq) (byteV e.key.kind) x' (.slice (some ⟨w4.heap.size, 0, none⟩) ht ht)
  have ho2 := out_set5 (S := fun b => b = wc.heap.size) (Out.refl _ (w4.alloc (nxO ht))) (g := wc.heap.size) (fun _ => rfl) u' (u64V e.key.seq) (byteV e.key.kind) x' (.slice (some ⟨w4.heap.size, 0, none⟩) ht ht)
  exact InsD.of hC (out_set5 (hcx.alloc _) (by omega) _ _ _ _ _) (blk_set5 jb _ _ _ _ _) (ho2.blk (blk_new _ _) (by omega)) (by omega) (by omega) (hb1.later (by omega) ho (fun b _ h => ⟨by omega, by omega, by omega⟩)) (hb2.later (by omega) ho (fun b _ h => ⟨by omega, by omega, by omega⟩))
theorem ins_k6 (hx4 : Ext ((wc.alloc z0O).alloc (nxO ht)).drew w4) (hb1 : Bs w4 (fun b => ((wc.alloc z0O).alloc (nxO ht)).drew.heap.size ≤ b) u' e.key.user) (hb2 : Bs w4 (fun b => ((wc.alloc z0O).alloc (nxO ht)).drew.heap.size ≤ b) x' e.value) :
    InsD w (((((w4.setCell ⟨wc.heap.size, 0, none⟩ u').setCell ⟨wc.heap.size, 1, none⟩ (u64V e.key.seq)).setCell ⟨wc.heap.size, 2, none⟩ (byteV e.key.kind)).setCell ⟨wc.heap.size, 3, none⟩ x').setCell ⟨wc.heap.size, 4, none⟩ (.slice (some ⟨wc.heap.size + 1, 0, none⟩) ht ht))
      Foot F L v ts size u x e ord pb wc.heap.size (wc.heap.size + 1) u' x' (List.replicate ht 0) := by
  have e1 : ((wc.alloc z0O).alloc (nxO ht)).drew.heap.size = wc.heap.size + 1 + 1 := by simp
  have hsz := hx4.size
  rw [e1] at hsz hb1 hb2
  have hcx : Ext wc w4 := ((Ext.alloc1 wc _).alloc _).drew.trans hx4
  have jb := hx4.blk (o := z0O) (g := wc.heap.size) (blk_alloc (blk_new _ _) _) (fun f => f)
  have jn := hx4.blk (o := nxO ht) (g := wc.heap.size + 1) (blk_atD (by simp)) (fun f => f)
  have ho := out_set5 (S := fun b => b = wc.heap.size) (Out.refl _ w4) (g := wc.heap.size) (fun _ => rfl) u' (u64V e.key.seq) (byteV e.key.kind) x' (.slice (some ⟨wc.heap.size + 1, 0, none⟩) ht ht)
  exact InsD.of hC (out_set5 hcx (by omega) _ _ _ _ _) (blk_set5 jb _ _ _ _ _) (ho.blk jn (by omega)) (by omega) (by omega) (hb1.later (by omega) ho (fun b _ h => ⟨by omega, by omega, by omega⟩)) (hb2.later (by omega) ho (fun b _ h => ⟨by omega, by omega, by omega⟩))
end

/-- In the loop: the stores into the list and into the new tower. -/
structure InsL (w wr : World) (Foot : Nat → Prop) (L : Nat) (v : Value) (ts : List Tw) (size : Int) (u x : Value) (e : Ent) (pb : Nat) (pv : Array Value) (tb T : Nat) (u' x' : Value) (nx : List Nat) : Prop where
  foot : ∀ b, Foot b → b < w.heap.size
  out : Out Foot w wr
  sk : Sk wr Foot L v ts size
  box : wr.heap[w.heap.size]? = some (.cells #[u, u64V e.key.seq, byteV e.key.kind, x] 32)
  pos : w.heap.size < pb
  path : wr.heap[pb]? = some (.cells pv 148)
  tow : wr.heap[tb]? = some (.cells #[u', u64V e.key.seq, byteV e.key.kind, x', .slice (some ⟨T, 0, none⟩) nx.length nx.length] 143)
  nxt : wr.heap[T]? = some (.cells (nxV nx) 3)
  ptb : pb < tb
  pT : pb < T
  tT : tb ≠ T
  bu' : Bs wr (fun b => pb < b ∧ b ≠ tb ∧ b ≠ T) u' e.key.user
  bx' : Bs wr (fun b => pb < b ∧ b ≠ tb ∧ b ≠ T) x' e.value

theorem InsD.toL {pb tb T : Nat} {u' x' : Value} {nx : List Nat} (h : InsD w wr Foot F L v ts size u x e ord pb tb T u' x' nx) (hF : ∀ b, Foot b → b < w.heap.size) : InsL w wr Foot L v ts size u x e pb (pathV ts ord e.key) tb T u' x' nx where
  foot := hF
  out := h.ext.out _
  sk := h.sk
  box := h.box
  pos := h.pos
  path := h.path
  tow := h.tow
  nxt := h.nxt
  ptb := h.ptb
  pT := h.pT
  tT := fun e => by
    have h1 := h.tow
    have h2 := h.nxt
    rw [e, h2] at h1
    injection h1 with h1
    injection h1 with _ h1
    cases h1
  bu' := h.bu'
  bx' := h.bx'

section
variable {pb tb T : Nat} {pv : Array Value} {u' x' : Value} {nx : List Nat}

theorem InsL.step (h : InsL w wr Foot L v ts size u x e pb pv tb T u' x' nx) (hx : Ext wr w1) : InsL w w1 Foot L v ts size u x e pb pv tb T u' x' nx :=
  { h with out := h.out.ext hx, sk := h.sk.ext hx, box := hx.blk h.box (fun f => f), path := hx.blk h.path (fun f => f), tow := hx.blk h.tow (fun f => f), nxt := hx.blk h.nxt (fun f => f), bu' := h.bu'.ext hx, bx' := h.bx'.ext hx }

theorem InsL.setT (h : InsL w wr Foot L v ts size u x e pb pv tb T u' x' nx) (r n : Nat) : InsL w (wr.setCell ⟨T, r, none⟩ (.int .i64 (n : Int))) Foot L v ts size u x e pb pv tb T u' x' (nx.set r n) := by
  have ho : Out (fun b => b = T) wr (wr.setCell ⟨T, r, none⟩ (.int .i64 (n : Int))) := (Out.refl (fun b => b = T) wr).setCell (p := ⟨T, r, none⟩) (fun _ => rfl) _
  have h1 := h.pos
  have h2 := h.pT
  have h3 := h.ptb
  exact
    { foot := h.foot
      out := h.out.setCell (p := ⟨T, r, none⟩) (fun hh => by simp at hh; omega) _
      sk := h.sk.frame ho (fun b _ hb e => by have := h.foot b hb; omega)
      box := ho.blk h.box (by omega)
      pos := h.pos
      path := ho.blk h.path (by omega)
      tow := by rw [List.length_set]; exact ho.blk h.tow h.tT
      nxt := by
        have := blk_set h.nxt r (.int .i64 (n : Int))
        rwa [nxV_set] at this
      ptb := h.ptb
      pT := h.pT
      tT := h.tT
      bu' := h.bu'.out ho (fun b _ hb => hb.2.2)
      bx' := h.bx'.out ho (fun b _ hb => hb.2.2) }

theorem InsL.setP (h : InsL w wr Foot L v ts size u x e pb pv tb T u' x' nx) (p : Nat) (hp : p < ts.length) (r n : Nat) : InsL w (wr.setCell ⟨ts[p].T, r, none⟩ (.int .i64 (n : Int))) Foot L v (setNx ts p r n) size u x e pb pv tb T u' x' nx := by
  have ho : Out (fun b => b = ts[p].T) wr (wr.setCell ⟨ts[p].T, r, none⟩ (.int .i64 (n : Int))) := (Out.refl (fun b => b = ts[p].T) wr).setCell (p := ⟨ts[p].T, r, none⟩) (fun _ => rfl) _
  have h1 := h.pos
  have h2 := h.pT
  have h3 := h.ptb
  have hf := (h.sk.next ts[p] (List.getElem_mem hp)).1
  have h4 := h.foot _ hf
  exact
    { foot := h.foot
      out := h.out.setCell (p := ⟨ts[p].T, r, none⟩) (fun _ => hf) _
      sk := h.sk.setNx p hp r n
      box := ho.blk h.box (by omega)
      pos := h.pos
      path := ho.blk h.path (by omega)
      tow := ho.blk h.tow (by omega)
      nxt := ho.blk h.nxt (by omega)
      ptb := h.ptb
      pT := h.pT
      tT := h.tT
      bu' := h.bu'.out ho (fun b _ hb => by omega)
      bx' := h.bx'.out ho (fun b _ hb => by omega) }

/-- The new tower, as it is appended. -/
theorem InsL.rep (h : InsL w wr Foot L v ts size u x e pb pv tb T u' x' nx) (hx : Ext wr w1) : towC.rep w1 (fun b => ((Foot b ∨ w.heap.size ≤ b) ∧ ¬ Priv L (ts ++ [⟨e, T, nx⟩]) b) ∧ v.ownBlock ≠ some b) [u', u64V e.key.seq, byteV e.key.kind, x', .slice (some ⟨T, 0, none⟩) nx.length nx.length] ⟨e, T, nx⟩ := by
  have h1 := h.pos
  have key : ∀ b, (pb < b ∧ b ≠ tb ∧ b ≠ T) → ((Foot b ∨ w.heap.size ≤ b) ∧ ¬ Priv L (ts ++ [⟨e, T, nx⟩]) b) ∧ v.ownBlock ≠ some b := fun b hb => by
    refine ⟨⟨.inr (by omega), ?_⟩, fun e => ?_⟩
    · rintro (e1 | ⟨t, ht, e1⟩)
      · have := h.foot L h.sk.footL; omega
      · rcases List.mem_append.1 ht with ht | ht
        · have := h.foot _ (h.sk.next t ht).1; omega
        · obtain rfl : t = ⟨e, T, nx⟩ := by simpa using ht
          exact hb.2.2 e1
    · have := h.foot _ (h.sk.row b e).1; omega
  exact ⟨u', x', rfl, (h.bu'.ext hx).mono (fun b hb _ => key b hb) (.inl (by decide)), (h.bx'.ext hx).mono (fun b hb _ => key b hb) (.inl (by decide))⟩
end

theorem pathV_get (ts : List Tw) (ord : List Nat) (k : Key) (r : Nat) (hr : r < 8) : (pathV ts ord k)[r]? = some (nV (pathAt ts ord k r)) := by
  have : r = 0 ∨ r = 1 ∨ r = 2 ∨ r = 3 ∨ r = 4 ∨ r = 5 ∨ r = 6 ∨ r = 7 := by omega
  rcases this with rfl | rfl | rfl | rfl | rfl | rfl | rfl | rfl <;> rfl

/-- The new tower's 'next' when r rows are done. -/
def nxR (ts : List Tw) (ord : List Nat) (k : Key) (ht r : Nat) : List Nat := (List.range ht).map fun j => if j < r then nxt ts j (pathAt ts ord k j) else 0
theorem nxR_length {k : Key} {ht r : Nat} : (nxR ts ord k ht r).length = ht := by simp [nxR]
theorem nxR_zero {k : Key} {ht : Nat} : nxR ts ord k ht 0 = List.replicate ht 0 := by
  apply List.ext_getElem?
  intro i
  by_cases hi : i < ht <;> simp [nxR, hi]
theorem nxR_set {k : Key} {ht r : Nat} : (nxR ts ord k ht r).set r (nxt ts r (pathAt ts ord k r)) = nxR ts ord k ht (r + 1) := by
  apply List.ext_getElem?
  intro i
  rw [List.getElem?_set, nxR_length]
  by_cases hri : r = i
  · subst hri
    by_cases hr : r < ht <;> simp [nxR, hr]
  · by_cases hi : i < ht
    · have e : i < r + 1 ↔ i < r := by omega
      simp [nxR, hi, hri, e]
    · simp [nxR, hi, hri]
theorem nxR_full {k : Key} {ht : Nat} : nxR ts ord k ht ht = (List.range ht).map fun j => nxt ts j (pathAt ts ord k j) := by
  unfold nxR
  apply List.map_congr_left
  intro j hj
  rw [if_pos (List.mem_range.1 hj)]

/-- What is read, and where it is written, in row r. -/
theorem upd_read (hg : Good ts ord) (k : Key) {r : Nat} (hr : r < 8) {tsr : List Tw} (he : updTo ts (pathAt ts ord k) ts.length r = tsr) :
    ∃ hp : pathAt ts ord k r < tsr.length, ∃ hh : r < (tsr[pathAt ts ord k r]'hp).nx.length, (tsr[pathAt ts ord k r]'hp).nx[r] = nxt ts r (pathAt ts ord k r) := by
  obtain ⟨v1, v2⟩ := (OnWay.end_ ts ord k r).valid hg hr
  have hp : pathAt ts ord k r < tsr.length := by rw [← he, updTo_length]; exact v1
  have h2 : hgt tsr (pathAt ts ord k r) = hgt ts (pathAt ts ord k r) := by rw [← he, updTo_hgt]
  have hh : r < (tsr[pathAt ts ord k r]'hp).nx.length := by rw [← hgt_get hp, h2]; exact v2
  refine ⟨hp, hh, ?_⟩
  rw [← nxt_get hp hh, ← he, updTo_nxt, if_neg (fun h => absurd h.1 (by omega))]

theorem ins_sum {size : Int} {a b : Nat} (h0 : 0 ≤ size) (h1 : size ≤ 1000000000000) (ha : a ≤ 1000) (hb : b ≤ 512) : IntKind.i64.wrap (size + IntKind.i64.wrap (IntKind.i64.wrap ((a : Int) + (b : Int)) + 16)) = size + (a + b + 16) := by
  rw [IntKind.wrap_i64, IntKind.wrap_i64, IntKind.wrap_i64]; omega
end Go.Proofs.Yteaanagljmcidaa

/- law10: a memo and the document's, side by side, or none of both. law10: ops that are written over. -/
import Derived.Test.YteaanagljmcidaaRef10
import Derived.Test.YteaanagljmcidaaMemoCDE
import Derived.Test.YteaanagljmcidaaPoke
import Derived.Test.YteaanagljmcidaaArgs4
namespace Go.Proofs.Yteaanagljmcidaa
open Go.RowKit

/-! ### a memo and the document's -/
abbrev PairS := Option (MS × XL)
def okP (n : Nat) : PairS → Prop
  | none => True
  | some (s, x) => RelX s x ∧ GoodX x ∧ okS s n ∧ x.length ≤ n
def ansDo (o : OpE) (q : Nat) (ht : Int) : PairS → Int
  | none => 6
  | some (s, _) => doR s.last o q ht
def stDo (o : OpE) (q : Nat) (ht : Int) : PairS → PairS
  | none => none
  | some (s, x) => if doR s.last o q ht = 0 then some (s.put o q ht, x ++ [(o, q)]) else some (s, x)
noncomputable def ansBat (l : List OpE) (q : Nat) (hs : List Int) : PairS → Int
  | none => 6
  | some (s, _) => batR s.last l q hs
noncomputable def stBat (l : List OpE) (q : Nat) (hs : List Int) : PairS → PairS
  | none => none
  | some (s, x) => some (batS s l q hs, batX x l q hs)
theorem stDo_some (o : OpE) (q : Nat) (ht : Int) (s : MS) (x : XL) : stDo o q ht (some (s, x)) = if doR s.last o q ht = 0 then some (s.put o q ht, x ++ [(o, q)]) else some (s, x) := rfl
theorem stBat_some (l : List OpE) (q : Nat) (hs : List Int) (s : MS) (x : XL) : stBat l q hs (some (s, x)) = some (batS s l q hs, batX x l q hs) := rfl
/-- More of it, of greater numbers. -/
def Grows : PairS → PairS → Prop
  | none, none => True
  | some (_, x), some (_, x') => ∃ y, x' = x ++ y ∧ ∀ p ∈ y, lastX x < p.2
  | _, _ => False
/-- Both in memory, in blocks of K, apart. -/
def Pr (w : World) (K : Nat → Prop) (m xv : Value) : PairS → Prop
  | none => m = .pointer none ∧ xv = .pointer none
  | some (s, x) => ∃ FM FX M R, m = .pointer (some ⟨M, 0, none⟩) ∧ xv = .pointer (some ⟨R, 0, none⟩) ∧ MmS w FM M s ∧ Rx w FX R x ∧ (∀ b, FM b → K b) ∧ (∀ b, FX b → K b) ∧ (∀ b, FM b → ¬ FX b)

theorem Grows.refl : ∀ st : PairS, Grows st st
  | none => trivial
  | some (_, x) => ⟨[], by simp, fun _ h => by cases h⟩
theorem okS.le {s : MS} {n k : Nat} (h : okS s n) (hk : n ≤ k) : okS s k := by
  obtain ⟨h1, h2, h3, h4⟩ := h
  exact ⟨by omega, by omega, h3, by omega⟩
theorem okP.le {n k : Nat} : ∀ {st : PairS}, okP n st → n ≤ k → okP k st
  | none, _, _ => trivial
  | some (_, _), ⟨h1, h2, h3, h4⟩, hk => ⟨h1, h2, h3.le hk, by omega⟩
theorem GoodX.left {x y : XL} (h : GoodX (x ++ y)) : GoodX x := ⟨(List.pairwise_append.1 h.1).1, fun p hp => h.2 p (List.mem_append_left _ hp)⟩
theorem lastX_mono {x y : XL} (h : GoodX (x ++ y)) : lastX x ≤ lastX (x ++ y) := by
  rcases List.eq_nil_or_concat x with rfl | ⟨z, p, rfl⟩
  · rw [lastX_nil]; omega
  · rw [List.concat_eq_append] at *
    rw [lastX_snoc]
    exact h.le_last (List.mem_append_left _ (by simp))
theorem Grows.trans {n : Nat} : ∀ {a b c : PairS}, Grows a b → Grows b c → okP n b → Grows a c
  | none, none, none, _, _, _ => trivial
  | some (_, x), some (_, x'), some (_, x''), ⟨y, hy, h1⟩, ⟨z, hz, h2⟩, hb => by
    refine ⟨y ++ z, by rw [hz, hy, List.append_assoc], fun p hp => ?_⟩
    rcases List.mem_append.1 hp with hp | hp
    · exact h1 p hp
    · have := h2 p hp
      subst hy
      have := lastX_mono hb.2.1
      omega
  | none, none, some _, _, h, _ => h.elim
  | none, some _, _, h, _, _ => h.elim
  | some _, none, _, h, _, _ => h.elim
  | some _, some _, none, _, h, _ => h.elim

theorem ok_do {n : Nat} {o : OpE} {q : Nat} {ht : Int} : ∀ {st : PairS}, okP n st → okP (n + 1) (stDo o q ht st) ∧ Grows st (stDo o q ht st)
  | none, _ => ⟨trivial, trivial⟩
  | some (s, x), ⟨h1, h2, h3, h4⟩ => by
    rw [stDo_some]
    by_cases hc : doR s.last o q ht = 0
    · rw [if_pos hc]
      obtain ⟨g1, g2⟩ := rel_do h1 h2 hc
      obtain ⟨d1, d2, d3, d4, d5, d6⟩ := doR_ok hc
      refine ⟨⟨g2, g1, h3.put d1 q ht, by simp; omega⟩, [(o, q)], rfl, fun p hp => ?_⟩
      rw [List.mem_singleton.1 hp, ← h1.last]; exact d6
    · rw [if_neg hc]
      exact ⟨⟨h1, h2, h3.le (by omega), by omega⟩, Grows.refl (some (s, x))⟩
theorem seqX_grows {x : XL} {l : List OpE} {q : Nat} (h : lastX x < q) : ∀ k, k ≤ l.length → ∃ y, seqX x l q k = x ++ y ∧ ∀ p ∈ y, lastX x < p.2
  | 0, _ => ⟨[], by simp [seqX], fun _ h => by cases h⟩
  | k + 1, hk => by
    obtain ⟨y, h1, h2⟩ := seqX_grows (l := l) h k (by omega)
    refine ⟨y ++ [(l[k], q + k)], by rw [seqX_succ (by omega), h1, List.append_assoc], fun p hp => ?_⟩
    rcases List.mem_append.1 hp with hp | hp
    · exact h2 p hp
    · rw [List.mem_singleton.1 hp]; show lastX x < q + k; omega
theorem ok_bat {n : Nat} {l : List OpE} {q : Nat} {hs : List Int} : ∀ {st : PairS}, okP n st → okP (n + 64) (stBat l q hs st) ∧ Grows st (stBat l q hs st)
  | none, _ => ⟨trivial, trivial⟩
  | some (s, x), ⟨h1, h2, h3, h4⟩ => by
    rw [stBat_some]
    unfold batS batX
    rw [← h1.last]
    by_cases hc : batR s.last l q hs = 0
    · rw [if_pos hc, if_pos hc]
      obtain ⟨d1, d2, d3, d4, d5, d6, d7⟩ := batR_ok hc
      obtain ⟨g1, g2, g3⟩ := rel_bat h1 h2 d1 d3 d5 d7 d6 l.length (Nat.le_refl _)
      refine ⟨⟨g2, g1, (h3.bat d1 q hs l.length (Nat.le_refl _)).le (by omega), by rw [seqX_len _ _ _ _ (Nat.le_refl _)]; omega⟩, seqX_grows (by rw [← h1.last]; exact d7) l.length (Nat.le_refl _)⟩
    · rw [if_neg hc, if_neg hc]
      exact ⟨⟨h1, h2, h3.le (by omega), by omega⟩, Grows.refl (some (s, x))⟩

section
variable {w w' : World} {K G H : Nat → Prop} {m xv : Value} {st : PairS}

theorem Pr.frame {S : Nat → Prop} (h : Pr w K m xv st) (ho : Out S w w') (hs : ∀ b, b < w.heap.size → K b → ¬ S b) : Pr w' K m xv st := by
  match st, h with
  | none, h => exact h
  | some (s, x), ⟨FM, FX, M, R, e1, e2, hm, hx, f1, f2, f3⟩ =>
    exact ⟨FM, FX, M, R, e1, e2, Mm.frame hm ho (fun b hb hf => hs b hb (f1 b hf)), hx.frame ho (fun b hb hf => hs b hb (f2 b hf)), f1, f2, f3⟩
theorem Pr.ext (h : Pr w K m xv st) (ho : Ext w w') : Pr w' K m xv st := h.frame ho fun _ _ _ f => f
theorem Pr.mono (h : Pr w K m xv st) (hg : ∀ b, b < w.heap.size → K b → G b) : Pr w G m xv st := by
  match st, h with
  | none, h => exact h
  | some (s, x), ⟨FM, FX, M, R, e1, e2, hm, hx, f1, f2, f3⟩ =>
    exact ⟨fun b => FM b ∧ b < w.heap.size, fun b => FX b ∧ b < w.heap.size, M, R, e1, e2, Mm.mono hm (fun b hb hf => ⟨hf, hb⟩), hx.mono (fun b hb hf => ⟨hf, hb⟩), fun b hb => hg b hb.2 (f1 b hb.1), fun b hb => hg b hb.2 (f2 b hb.1), fun b hb hc => f3 b hb.1 hc.1⟩
theorem Pr.formM (h : Pr w K m xv st) : (∃ p, m = .pointer p) ∧ ∃ p, xv = .pointer p := by
  match st, h with
  | none, ⟨h1, h2⟩ => exact ⟨⟨_, h1⟩, _, h2⟩
  | some (s, x), ⟨FM, FX, M, R, e1, e2, _⟩ => exact ⟨⟨_, e1⟩, _, e2⟩

/-- What is left to do at the document's, behind Do at the memo. -/
def MidDo (w w1 : World) (K : Nat → Prop) (m xv : Value) (st : PairS) (o : OpE) (q : Nat) (ht : Int) : Prop :=
  ∀ w2 (u v : Value) (G : Nat → Prop), Ext w1 w2 → Bs w2 G u o.key → Bs w2 G v o.val → Calls Try.prog 134 #[xv, .agg #[byteV o.kind, u, v], .int .u64 (q : Int), .int .i64 ht] w2 fun e w3 =>
    e = .returned (.int .i64 (ansDo o q ht st)) ∧ Out K w2 w3 ∧ Pr w3 (fun b => (K b ∨ w.heap.size ≤ b) ∧ b < w3.heap.size) m xv (stDo o q ht st)
theorem pr_do (h : Pr w K m xv st) {n : Nat} (hok : okP n st) (hn : n < 70000) (o : OpE) {u v : Value} (hG : ∀ b, G b → b < w.heap.size) (hu : Bs w G u o.key) (hv : Bs w G v o.val) (q : Nat) (ht : Int) :
    Calls Try.prog 86 #[m, .agg #[byteV o.kind, u, v], .int .u64 (q : Int), .int .i64 ht] w fun e w1 => e = .returned (.int .i64 (ansDo o q ht st)) ∧ Out K w w1 ∧ MidDo w w1 K m xv st o q ht := by
  match st, h, hok with
  | none, ⟨e1, e2⟩, _ =>
    subst e1 e2
    refine (memo_doN w o hu hv q ht).mono ?_
    rintro e w1 ⟨rfl, hx⟩
    refine ⟨rfl, hx.out _, fun w2 u' v' G' hx2 hu' hv' => (r10_doN w2 o hu' hv' q ht).mono ?_⟩
    rintro e w3 ⟨rfl, hx3⟩
    exact ⟨rfl, hx3.out _, rfl, rfl⟩
  | some (s, x), ⟨FM, FX, M, R, e1, e2, hm, hx, f1, f2, f3⟩, ⟨k1, k2, k3, k4⟩ =>
    subst e1 e2
    have hxl : x.length ≤ 100000 := by omega
    obtain ⟨o1, o2, o3, o4⟩ := k3
    by_cases hc : doR s.last o q ht = 0
    · have hcx : doR (lastX x) o q ht = 0 := by rw [← k1.last]; exact hc
      refine (memo_do hm o hG hu hv q (by omega) (by omega) o3 (by omega) ht hc).mono ?_
      rintro e w1 ⟨rfl, ho, hm1⟩
      refine ⟨by rw [show ansDo o q ht (some (s, x)) = 0 from hc], ho.mono (fun b _ hb => f1 b hb), fun w2 u' v' G' hx2 hu' hv' => ?_⟩
      have hxw : Rx w (fun b => FX b ∧ b < w.heap.size) R x := hx.mono fun b hb hf => ⟨hf, hb⟩
      have hx1 : Rx w2 (fun b => FX b ∧ b < w.heap.size) R x := (hxw.frame ho (fun b _ hb hf => f3 b hf hb.1)).ext hx2
      have hm2 : Mm w2 (fun b => (FM b ∨ w.heap.size ≤ b) ∧ b < w1.heap.size) M (putM s.m o q ht) (putL s.l o q) (s.sz + opW o) q := Mm.ext (Mm.mono hm1 fun b hb hf => ⟨hf, hb⟩) hx2
      refine (r10_do hx1 k2 hxl o hu' hv' q ht hcx).mono ?_
      rintro e w3 ⟨rfl, ho3, hx3⟩
      have hz1 := ho.size
      have hz2 := hx2.size
      have hz3 := ho3.size
      refine ⟨by rw [show ansDo o q ht (some (s, x)) = 0 from hc], ho3.mono (fun b _ hb => f2 b hb.1), ?_⟩
      rw [stDo_some, if_pos hc]
      refine ⟨fun b => (FM b ∨ w.heap.size ≤ b) ∧ b < w1.heap.size, fun b => ((FX b ∧ b < w.heap.size) ∨ w2.heap.size ≤ b) ∧ b < w3.heap.size, M, R, rfl, rfl, ?_, hx3.mono fun b hb hf => ⟨hf, hb⟩, ?_, ?_, ?_⟩
      · exact Mm.frame hm2 ho3 (fun b _ hb hc => hb.1.elim (fun h => f3 b h hc.1) (fun h => by omega))
      · exact fun b hb => ⟨hb.1.imp (f1 b) id, by omega⟩
      · exact fun b hb => ⟨hb.1.elim (fun h => .inl (f2 b h.1)) (fun h => .inr (by omega)), hb.2⟩
      · exact fun b hb hc => hc.1.elim (fun hc => hb.1.elim (fun h => f3 b h hc.1) (fun h => by omega)) (fun hc => by omega)
    · have hcx : doR (lastX x) o q ht ≠ 0 := by rw [← k1.last]; exact hc
      refine (memo_doNo hm o hu hv q ht hc).mono ?_
      rintro e w1 ⟨rfl, hx1⟩
      refine ⟨rfl, hx1.out _, fun w2 u' v' G' hx2 hu' hv' => (r10_doNo ((hx.ext hx1).ext hx2) k2 hxl o hu' hv' q ht hcx).mono ?_⟩
      rintro e w3 ⟨rfl, hx3⟩
      refine ⟨by rw [show ansDo o q ht (some (s, x)) = doR s.last o q ht from rfl, k1.last], hx3.out _, ?_⟩
      rw [stDo_some, if_neg hc]
      have hz1 := hx1.size
      have hz2 := hx2.size
      have hz3 := hx3.size
      have hP : Pr w K (.pointer (some ⟨M, 0, none⟩)) (.pointer (some ⟨R, 0, none⟩)) (some (s, x)) := ⟨FM, FX, M, R, rfl, rfl, hm, hx, f1, f2, f3⟩
      exact (hP.mono (G := fun b => (K b ∨ w.heap.size ≤ b) ∧ b < w3.heap.size) fun b hb hk => ⟨.inl hk, by omega⟩).ext ((hx1.ext hx2).ext hx3)
def MidBat (w w1 : World) (K : Nat → Prop) (m xv : Value) (st : PairS) (l : List OpE) (q : Nat) (hs : List Int) : Prop :=
  ∀ w2 (v hv : Value) (G H : Nat → Prop), Ext w1 w2 → Sl opC w2 G v l → Sl intC w2 H hv hs → (∀ b, G b → ¬ K b) → Calls Try.prog 135 #[xv, v, .int .u64 (q : Int), hv] w2 fun e w3 =>
    e = .returned (.int .i64 (ansBat l q hs st)) ∧ Out K w2 w3 ∧ Pr w3 (fun b => (K b ∨ w.heap.size ≤ b) ∧ b < w3.heap.size) m xv (stBat l q hs st)
theorem pr_bat (h : Pr w K m xv st) {n : Nat} (hok : okP n st) (hn : n < 70000) {v hv : Value} (l : List OpE) (hs : List Int) (hl : Sl opC w G v l) (hh : Sl intC w H hv hs) (hG : ∀ b, G b → b < w.heap.size) (hGK : ∀ b, G b → ¬ K b) (hHK : ∀ b, H b → ¬ K b) (q : Nat) :
    Calls Try.prog 87 #[m, v, .int .u64 (q : Int), hv] w fun e w1 => e = .returned (.int .i64 (ansBat l q hs st)) ∧ Out K w w1 ∧ MidBat w w1 K m xv st l q hs := by
  match st, h, hok with
  | none, ⟨e1, e2⟩, _ =>
    subst e1 e2
    refine (memo_batchN w l hs hl hh q).mono ?_
    rintro e w1 ⟨rfl, hx⟩
    refine ⟨rfl, hx.out _, fun w2 v' hv' G' H' hx2 hl' hh' _ => (r10_batchN w2 l hs hl' hh' q).mono ?_⟩
    rintro e w3 ⟨rfl, hx3⟩
    exact ⟨rfl, hx3.out _, rfl, rfl⟩
  | some (s, x), ⟨FM, FX, M, R, e1, e2, hm, hx, f1, f2, f3⟩, ⟨k1, k2, k3, k4⟩ =>
    subst e1 e2
    have hxl : x.length ≤ 90000 := by omega
    refine (memo_batch hm l hs hl hh hG (fun b hb hf => hGK b hb (f1 b hf)) (fun b hb hf => hHK b hb (f1 b hf)) q k3 (by omega)).mono ?_
    rintro e w1 ⟨rfl, ho, hm1⟩
    refine ⟨rfl, ho.mono (fun b _ hb => f1 b hb), fun w2 v' hv' G' H' hx2 hl' hh' hGK' => ?_⟩
    have hxw : Rx w (fun b => FX b ∧ b < w.heap.size) R x := hx.mono fun b hb hf => ⟨hf, hb⟩
    have hx1 : Rx w2 (fun b => FX b ∧ b < w.heap.size) R x := (hxw.frame ho (fun b _ hb hf => f3 b hf hb.1)).ext hx2
    have hm2 : MmS w2 (fun b => (FM b ∨ w.heap.size ≤ b) ∧ b < w1.heap.size) M (batS s l q hs) := Mm.ext (Mm.mono hm1 fun b hb hf => ⟨hf, hb⟩) hx2
    refine (r10_batch hx1 k2 hxl l hs hl' hh' (fun b hb hf => hGK' b hb (f2 b hf.1)) q).mono ?_
    rintro e w3 ⟨rfl, ho3, hx3⟩
    have hz1 := ho.size
    have hz2 := hx2.size
    have hz3 := ho3.size
    refine ⟨by rw [show ansBat l q hs (some (s, x)) = batR s.last l q hs from rfl, k1.last], ho3.mono (fun b _ hb => f2 b hb.1), ?_⟩
    refine ⟨fun b => (FM b ∨ w.heap.size ≤ b) ∧ b < w1.heap.size, fun b => ((FX b ∧ b < w.heap.size) ∨ w2.heap.size ≤ b) ∧ b < w3.heap.size, M, R, rfl, rfl, ?_, hx3.mono fun b hb hf => ⟨hf, hb⟩, ?_, ?_, ?_⟩
    · exact Mm.frame hm2 ho3 (fun b _ hb hc => hb.1.elim (fun h => f3 b h hc.1) (fun h => by omega))
    · exact fun b hb => ⟨hb.1.imp (f1 b) id, by omega⟩
    · exact fun b hb => ⟨hb.1.elim (fun h => .inl (f2 b h.1)) (fun h => .inr (by omega)), hb.2⟩
    · exact fun b hb hc => hc.1.elim (fun hc => hb.1.elim (fun h => f3 b h hc.1) (fun h => by omega)) (fun hc => by omega)
end
end Go.Proofs.Yteaanagljmcidaa
namespace Go.Proofs.Yteaanagljmcidaa
open Go.RowKit

/-- Element i of an owned list of ops. -/
theorem Own.opAt {w : World} {B : Nat} {F : Nat → Prop} {v : Value} {l : List OpE} (h : Own opC 112 w B F v l) (i : Nat) (hi : i < l.length) : ∃ R cap x y, v = .slice (some ⟨R, 0, none⟩) l.length cap ∧ B ≤ R ∧ R < w.heap.size ∧
    w.cell? ⟨R, i * 3, none⟩ = some (byteV l[i].kind) ∧ w.cell? ⟨R, i * 3 + 1, none⟩ = some x ∧ w.cell? ⟨R, i * 3 + 2, none⟩ = some y ∧ Bs w (fun b => F b ∧ b ≠ R) x l[i].key ∧ Bs w (fun b => F b ∧ b ≠ R) y l[i].val := by
  obtain ⟨xs, ho, he⟩ := h
  obtain ⟨cs', hc', x, y, rfl, hb1, hb2⟩ := he i hi
  rcases ho.2 with ⟨rfl, h0⟩ | ⟨R, cap, cur, rfl, hb, hg, hnc, _⟩
  · omega
  · have key : ∀ j u, j < 3 → [byteV l[i].kind, x, y][j]? = some u → w.cell? ⟨R, i * 3 + j, none⟩ = some u := by
      intro j u hj hu
      have h1 := hc' j hj
      rw [hu] at h1
      have h2 := ho.cells (g := R) rfl (i * 3 + j) u h1
      rwa [show (⟨R, 0, none⟩ : Addr).add (i * 3 + j) = ⟨R, i * 3 + j, none⟩ from by unfold Addr.add; split <;> simp_all] at h2
    exact ⟨R, cap, x, y, rfl, hb, blk_lt hg, key 0 _ (by omega) rfl, key 1 _ (by omega) rfl, key 2 _ (by omega) rfl,
      hb1.mono (fun b hb _ => ⟨hb.1, fun e => hb.2 (by rw [e]; rfl)⟩) (.inl (by decide)), hb2.mono (fun b hb _ => ⟨hb.1, fun e => hb.2 (by rw [e]; rfl)⟩) (.inl (by decide))⟩
theorem Own.pokeO {w : World} {B : Nat} {F : Nat → Prop} {v : Value} {l : List OpE} (h : Own opC 112 w B F v l) {p : Addr} {x : UInt8} (hp : w.cell? p = some (byteV x)) (hr : v.ownBlock ≠ some p.block) (y : UInt8) :
    ∃ l' : List OpE, l'.length = l.length ∧ (∀ i (h : i < l.length) (h' : i < l'.length), l'[i].val.length = l[i].val.length) ∧ Own opC 112 (w.setCell p (byteV y)) B F v l' := by
  obtain ⟨xs, ho, he⟩ := h
  have key : ∀ i (hi : i < l.length), ∃ e : OpE, e.val.length = l[i].val.length ∧ ∃ cs, (∀ j, j < opC.size → xs[i * opC.size + j]? = cs[j]?) ∧ opC.rep (w.setCell p (byteV y)) (fun b => F b ∧ v.ownBlock ≠ some b) cs e := fun i hi => by
    obtain ⟨cs, hc, u, z, h1, h2, h3⟩ := he i hi
    obtain ⟨l1, _, g1⟩ := h2.poke hp y
    obtain ⟨l2, e2, g2⟩ := h3.poke hp y
    exact ⟨⟨l[i].kind, l1, l2⟩, e2, cs, hc, u, z, h1, g1, g2⟩
  have hex : ∃ f : Nat → OpE, ∀ i (hi : i < l.length), (f i).val.length = l[i].val.length ∧ ∃ cs, (∀ j, j < opC.size → xs[i * opC.size + j]? = cs[j]?) ∧ opC.rep (w.setCell p (byteV y)) (fun b => F b ∧ v.ownBlock ≠ some b) cs (f i) := by
    classical
    refine ⟨fun i => if hi : i < l.length then Classical.choose (key i hi) else ⟨0, [], []⟩, fun i hi => ?_⟩
    simp only [dif_pos hi]
    exact Classical.choose_spec (key i hi)
  obtain ⟨f, hf⟩ := hex
  have hlen : ((List.range l.length).map f).length = l.length := by simp
  refine ⟨(List.range l.length).map f, hlen, fun i h1 h2 => by simpa using (hf i h1).1, xs, ?_, fun i hi => ?_⟩
  · rw [hlen]
    refine ⟨ho.1, ?_⟩
    rcases ho.2 with h0 | ⟨g, cap, cur, h3, h4, h5, h6⟩
    · exact .inl h0
    · refine .inr ⟨g, cap, cur, h3, h4, ?_, h6⟩
      exact (Below.heap_setCell _ _ _ _ (fun e => hr (by rw [h3, ← e]; rfl))).trans h5
  · rw [hlen] at hi
    obtain ⟨-, cs, hc, hr'⟩ := hf i hi
    exact ⟨cs, hc, by simpa using hr'⟩
theorem Sl.takeI {w : World} {F : Nat → Prop} {A : Option Addr} {n cap : Nat} {l : List Int} (h : Sl intCA w F (.slice A n cap) l) (k : Nat) (hk : k ≤ l.length) (hb : k ≤ 1000) : Sl intC w F (.slice A k cap) (l.take k) := by
  obtain ⟨A', cap', hv, h1, h2, h3, h4, h5⟩ := h.take k hk
  refine ⟨A', cap', hv, h1, h2, ?_, h4, h5⟩
  show _ ≤ 140737488355328
  rw [List.length_take]; omega
end Go.Proofs.Yteaanagljmcidaa

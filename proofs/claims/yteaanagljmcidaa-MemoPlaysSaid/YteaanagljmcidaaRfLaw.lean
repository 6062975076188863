/- A range over a function whose rounds always go on: the caller's law. -/
import Derived.RangeFuncNested
import Derived.RangeFuncBound
import Derived.RangeFuncCalls
import Derived.RangeFuncLeaves
import Derived.Shelf.Abstract
import Derived.Shelf.RegionOpen
import Derived.OwnWalkIn
import Derived.TacticsInMore
import Derived.LoopNIn
import Derived.LoopIn
import Derived.Test.YteaanagljmcidaaMem2
namespace Go.Proofs.Yteaanagljmcidaa
open Go.RowKit

/-- The contract of an iterator: what it hands to the rounds can be read there; rounds alter blocks of K alone. -/
def Gives {α : Type} (n : Nat) (P : Program) (gf : Nat) (lb : Array Value) (encs : α → Array Value) (Rd : Nat → α → World → Prop) (B : Nat) (K : Nat → Prop) (S : List α → Prop) (N : Nat) (w : World) : Prop :=
  ∀ (l : Nat) (J : List α → World → Prop) (W : World), Out K w W → B ≤ W.heap.size → (∀ pre A B, J pre A → Ext A B → J pre B) →
    (∀ pre x W0 W1, J pre W0 → Ext W0 W1 → B ≤ W0.heap.size → Rd W0.heap.size x W1 → pre.length < N → YieldAt Fence.wide (n - 1) P l (encs x) W1 fun e W' => e = .returned (.bool true) ∧ J (pre ++ [x]) W' ∧ Out K W1 W') →
    J [] W →
    CallsIn Fence.wide n P gf (#[.func (.yield l) #[] #[]] ++ lb) W fun e W' => (∃ v, e = .returned v) ∧ ∃ xs, S xs ∧ J xs W' ∧ Out K W W'

theorem out_putObj (W : World) (l : Nat) (o : Obj) : Out (fun b => b = l) W (W.putObj l o) :=
  ⟨rfl, rfl, rfl, by simp, fun k _ hk => World.putObj_heap_other hk⟩

theorem wp_rangeFunc {α : Type} {P : Program} {n : Nat} {g : Operand} {ps : Array Tmp} {assign body : Code} {Q : Exit → Act → World → Prop} {a : Act} {w : World}
    (gf : Nat) (lb : Array Value) (hg : a.eval g = .func (.func gf) #[] lb) (eg : ∀ args w, (callFunc gf args).run P w = .ok (.enter gf args) w)
    {encs : α → Array Value} {Rd : Nat → α → World → Prop} {K : Nat → Prop} {S : List α → Prop} {N : Nat} (D : Nat) (hseq : Gives (n - 1) P gf lb encs Rd (D + 2) K S N w) (hD : w.heap.size = D) (hK : ∀ b, D ≤ b → K b) (hps : ∀ x, (encs x).size = ps.size)
    (I : List α → World → Prop) (hI : ∀ pre A B, I pre A → Out (fun b => b = D ∨ b = D + 1) A B → I pre B)
    (h0 : I [] w)
    (hround : ∀ (l : Nat) (pre : List α) (x : α) (W0 W : World), I pre W0 → Ext W0 W → D + 2 ≤ W0.heap.size → Rd W0.heap.size x W → pre.length < N →
      assign.wpIn (Fence.wide.inRound l) (n - 1 - 1) P (Exit.then (fun a₁ W1 => Out (fun b => K b ∧ b ≠ D ∧ b ≠ D + 1) W W1 ∧ ∀ W2, Out (fun b => b = D + 1) W1 W2 →
        body.wpIn (Fence.wide.inRound l) (n - 1 - 1) P (Exit.then (fun _ W3 => Out (fun b => K b ∧ b ≠ D ∧ b ≠ D + 1) W2 W3 ∧ I (pre ++ [x]) W3) (fun _ _ _ => False)) a₁ W2) (fun _ _ _ => False))
        { tmps := (ps.zip (encs x)).foldl (fun t (p, v) => t.setIfInBounds p v) a.tmps, defers := [] } W)
    (hdone : ∀ (xs : List α) (W : World), S xs → I xs W → Out K w W → W.heap[D]? = some (.deferred (some [])) → Q .normal { a with defers := { target := .collected D, args := #[] } :: a.defers } W) :
    (Code.rangeFunc g ps assign body).wpIn Fence.wide n P Q a w := by
  refine wpIn_rangeFunc fun fn hfn => ?_
  obtain ⟨rc, hrc⟩ : ∃ rc : LoopState → Loop, rc = fun st => { state := st, pending := none, fn, tmps := a.tmps, params := ps, assign, body, defers := D } := ⟨_, rfl⟩
  have x1 : Ext w ((w.alloc (.deferred (some []))).alloc (.loop (rc .ready))) := ((Out.refl _ w).alloc _).alloc _
  have hk1 : ((w.alloc (.deferred (some []))).alloc (.loop (rc .ready))).heap[D]? = some (.deferred (some [])) := blk_alloc (blk_at hD) _
  have hl1 : ((w.alloc (.deferred (some []))).alloc (.loop (rc .ready))).heap[D + 1]? = some (.loop (rc .ready)) := blk_at (by simp [hD])
  refine ⟨D + 1, [{ target := .collected D, args := #[] }], (w.alloc (.deferred (some []))).alloc (.loop (rc .ready)), { target := .fn (.func gf) lb, args := #[.func (.yield (D + 1)) #[] #[]] }, (w.alloc (.deferred (some []))).alloc (.loop (rc .ready)), gf, #[.func (.yield (D + 1)) #[] #[]] ++ lb, (w.alloc (.deferred (some []))).alloc (.loop (rc .ready)), ?_, ?_, fun _ _ => trivial, ?_, fun h => by simp [Fence.wide] at h, ?_⟩
  · have := run_enterLoop_outer (P := P) (w := w) fn a.tmps ps assign body
    rw [hD] at this
    rw [hrc]; exact this
  · simp only [resolve, hg]
    simp [go_sem]
  · simp [invoke, go_sem, eg]
  · refine (hseq (D + 1) (fun pre W => I pre W ∧ W.heap[D + 1]? = some (.loop (rc .ready)) ∧ W.heap[D]? = some (.deferred (some []))) _ (x1.out _) (by simp; omega) (fun pre A B h hx => ⟨hI _ _ _ h.1 (hx.out _), hx.blk h.2.1 (fun f => f), hx.blk h.2.2 (fun f => f)⟩) ?_ ⟨hI _ _ _ h0 (x1.out _), hl1, hk1⟩).mono ?_
    · rintro pre x W0 W ⟨hi, hl, hk⟩ hxt hsz hx hlen
      have hl := hxt.blk hl (fun f => f)
      have hk := hxt.blk hk (fun f => f)
      have hlt : D + 1 < W.heap.size := blk_lt hl
      have hy := run_yield (P := P) (args := encs x) hl (by rw [hrc]; exact hps x)
      rw [hrc] at hy
      refine ⟨fn, _, assign, body, hy, roundIn_of_wpIn hfn (wpIn_mono (hround _ pre x W0 W hi hxt hsz hx hlen) ?_)⟩
      rintro e1 a1 W1 hp1
      cases e1 with
      | normal =>
        obtain ⟨ho1, hb1⟩ := hp1
        have hl1 := ho1.blk hl (fun h => h.2.2 rfl)
        have hk1 := ho1.blk hk (fun h => h.2.1 rfl)
        refine ⟨_, run_beginRound hl1 (by rw [hrc]), ?_⟩
        have e2 : ({ rc .ready with state := .busy } : Loop) = rc .busy := by rw [hrc]
        rw [e2]
        have x2 : Out (fun b => b = D + 1) W1 (W1.putObj (D + 1) (.loop (rc .busy))) := out_putObj _ _ _
        have hl2 : (W1.putObj (D + 1) (.loop (rc .busy))).heap[D + 1]? = some (.loop (rc .busy)) := World.putObj_heap_same (blk_lt hl1)
        have hk2 : (W1.putObj (D + 1) (.loop (rc .busy))).heap[D]? = some (.deferred (some [])) := (World.putObj_heap_other (by omega)).trans hk1
        refine wpIn_mono (hb1 _ x2) ?_
        rintro e a3 W3 hp
        cases e with
        | normal =>
          obtain ⟨ho, hi3⟩ := hp
          have hl3 := ho.blk hl2 (fun h => h.2.2 rfl)
          have hk3 := ho.blk hk2 (fun h => h.2.1 rfl)
          have hr := run_endRound (P := P) none hl3
          have e3 : ({ rc .busy with state := if (none : Option Code).isNone then .ready else .done, pending := none } : Loop) = rc .ready := by rw [hrc]; rfl
          rw [e3] at hr
          refine ⟨_, _, hr, rfl, ⟨hI _ _ _ hi3 ((out_putObj _ _ _).mono fun _ _ => .inr), World.putObj_heap_same (blk_lt hl3), (World.putObj_heap_other (by omega)).trans hk3⟩, ?_⟩
          exact (((ho1.mono fun b _ h => h.1).trans (x2.mono fun b _ h => hK b (by omega))).trans (ho.mono fun b _ h => h.1)).trans ((out_putObj _ _ _).mono fun b _ h => hK b (by omega))
        | _ => exact hp.elim
      | _ => exact hp1.elim
    · rintro e W2 ⟨⟨v, rfl⟩, xs, hS, ⟨hi, hl, hk⟩, ho⟩
      have hr := run_endLoop (P := P) hl (by rw [hrc]; simp)
      rw [hrc] at hr
      exact ⟨none, _, hr, hdone xs _ hS (hI _ _ _ hi ((out_putObj _ _ _).mono fun _ _ => .inr)) (((x1.out _).trans ho).trans ((out_putObj _ _ _).mono fun b _ h => hK b (by omega))) ((World.putObj_heap_other (by omega)).trans hk)⟩
end Go.Proofs.Yteaanagljmcidaa

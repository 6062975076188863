/- law10: what a memo and the document's tell, or none of both. -/
import Derived.Test.YteaanagljmcidaaRunR
import Derived.Test.YteaanagljmcidaaR10Ents
import Derived.Test.YteaanagljmcidaaR9
namespace Go.Proofs.Yteaanagljmcidaa
open Go.RowKit

def wE (e : Ent) : Int := (e.key.user.length : Int) + e.value.length + 16
def wS (s : SpanE) : Int := (s.frm.length : Int) + s.til.length + 16
def sumE (l : List Ent) : Int := (l.map wE).sum
def sumS (l : List SpanE) : Int := (l.map wS).sum
theorem sumE_succ {l : List Ent} {i : Nat} (hi : i < l.length) : sumE (l.take (i + 1)) = sumE (l.take i) + wE l[i] := by
  unfold sumE; rw [List.take_succ_eq_append_getElem hi, List.map_append, List.sum_append]; simp
theorem sumS_succ {l : List SpanE} {i : Nat} (hi : i < l.length) : sumS (l.take (i + 1)) = sumS (l.take i) + wS l[i] := by
  unfold sumS; rw [List.take_succ_eq_append_getElem hi, List.map_append, List.sum_append]; simp
theorem sumE_le : ∀ {l : List Ent}, (∀ e ∈ l, e.key.user.length ≤ 1000 ∧ e.value.length ≤ 1000) → 0 ≤ sumE l ∧ sumE l ≤ l.length * 3000
  | [], _ => by simp [sumE]
  | e :: l, h => by
    have h1 := sumE_le (l := l) fun y hy => h y (List.mem_cons_of_mem _ hy)
    have h2 := h e List.mem_cons_self
    have h3 : sumE (e :: l) = wE e + sumE l := by simp [sumE]
    have h4 : wE e = (e.key.user.length : Int) + e.value.length + 16 := rfl
    rw [List.length_cons]
    omega
theorem sumS_le : ∀ {l : List SpanE}, (∀ e ∈ l, e.frm.length ≤ 1000 ∧ e.til.length ≤ 1000) → 0 ≤ sumS l ∧ sumS l ≤ l.length * 3000
  | [], _ => by simp [sumS]
  | e :: l, h => by
    have h1 := sumS_le (l := l) fun y hy => h y (List.mem_cons_of_mem _ hy)
    have h2 := h e List.mem_cons_self
    have h3 : sumS (e :: l) = wS e + sumS l := by simp [sumS]
    have h4 : wS e = (e.frm.length : Int) + e.til.length + 16 := rfl
    rw [List.length_cons]
    omega
theorem sumE_ins (out : List Ent) (e : Ent) : sumE (insF out e) = sumE out + wE e := by
  have key : ∀ (l : List Ent) (p : Ent → Bool), sumE (l.filter p) + sumE (l.filter fun y => !p y) = sumE l := by
    intro l p
    induction l with
    | nil => rfl
    | cons y l ih =>
      have h3 : ∀ (y : Ent) l, sumE (y :: l) = wE y + sumE l := fun y l => by simp [sumE]
      by_cases hp : p y = true
      · rw [List.filter_cons_of_pos hp, List.filter_cons_of_neg (by simp [hp]), h3, h3]; omega
      · rw [List.filter_cons_of_neg hp, List.filter_cons_of_pos (by simpa using hp), h3, h3]; omega
  have h1 := key out (fun y => decide (kcmp y.key e.key < 0))
  have h2 : sumE (insF out e) = sumE (out.filter fun y => decide (kcmp y.key e.key < 0)) + (wE e + sumE (out.filter fun y => !decide (kcmp y.key e.key < 0))) := by
    unfold insF sumE
    rw [List.map_append, List.sum_append, List.map_cons, List.sum_cons]
  omega
theorem sumS_snoc (l : List SpanE) (s : SpanE) : sumS (l ++ [s]) = sumS l + wS s := by
  unfold sumS; rw [List.map_append, List.sum_append]; simp
/-- The bytes of what is told are the bytes of the ops. -/
theorem sum_size (x : XL) : sumE (entsX x) + sumS (spansX x) = sizeX x := by
  have key : ∀ n (x : XL), x.length = n → sumE (entsX x) + sumS (spansX x) = sizeX x := by
    intro n
    induction n with
    | zero => intro x hx; rw [List.eq_nil_of_length_eq_zero hx]; rfl
    | succ n ih =>
      intro x hx
      have hne : x ≠ [] := fun e => by rw [e] at hx; cases hx
      have hd : x.dropLast ++ [x.getLast hne] = x := List.dropLast_concat_getLast hne
      rw [← hd, entsX_snoc, spansX_snoc, sizeX_snoc]
      have h1 := ih x.dropLast (by rw [List.length_dropLast, hx]; rfl)
      generalize x.getLast hne = p
      cases hr : isR p.1 with
      | true =>
        simp only [if_true]
        rw [sumS_snoc]
        have : wS (spanO p) = opW p.1 := rfl
        omega
      | false =>
        simp only [Bool.false_eq_true, if_false]
        rw [sumE_ins]
        have : wE (entO p) = opW p.1 := rfl
        omega
  exact key _ x rfl

/-- What a memo and the document's tell, while I stands. -/
structure TellsX (mv xv : Value) (I : World → Prop) (E : List Ent) (L : List SpanE) (last : Nat) (g : List UInt8 → Nat → List UInt8 × Int) : Prop where
  keep : ∀ {a b}, I a → Ext a b → I b
  lastM : ∀ {w}, I w → Calls Try.prog 76 #[mv] w fun e w' => e = .returned (.int .u64 (last : Int)) ∧ Ext w w'
  lastX : ∀ {w}, I w → Calls Try.prog 91 #[xv] w fun e w' => e = .returned (.int .u64 (last : Int)) ∧ Ext w w'
  entsM : ∀ {w}, I w → Calls Try.prog 89 #[mv] w fun e w' => ∃ v, e = .returned v ∧ Ext w w' ∧ Sl entC w' (fun b => b < w'.heap.size) v E
  entsX : ∀ {w}, I w → Calls Try.prog 92 #[xv] w fun e w' => ∃ v, e = .returned v ∧ Ext w w' ∧ Sl entC w' (fun b => b < w'.heap.size) v E
  spansM : ∀ {w}, I w → Calls Try.prog 90 #[mv] w fun e w' => ∃ v, e = .returned v ∧ Ext w w' ∧ Sl spanC w' (fun b => b < w'.heap.size) v L
  spansX : ∀ {w}, I w → Calls Try.prog 93 #[xv] w fun e w' => ∃ v, e = .returned v ∧ Ext w w' ∧ Sl spanC w' (fun b => b < w'.heap.size) v L
  size : ∀ {w}, I w → Calls Try.prog 84 #[mv] w fun e w' => e = .returned (.int .i64 (sumE E + sumS L)) ∧ Ext w w'
  getM : ∀ {w} {F : Nat → Prop} {kv : Value} (key : List UInt8) (q : Nat), I w → Bs w F kv key → Calls Try.prog 73 #[mv, kv, .int .u64 (q : Int)] w (Got w (g key q))
  getX : ∀ {w} {F : Nat → Prop} {kv : Value} (key : List UInt8) (q : Nat), I w → Bs w F kv key → Calls Try.prog 94 #[xv, kv, .int .u64 (q : Int)] w (Got w (g key q))
  lenE : E.length ≤ 2000
  lenL : L.length ≤ 2000
  smE : ∀ e ∈ E, e.key.user.length ≤ 1000 ∧ e.value.length ≤ 1000
  smL : ∀ e ∈ L, e.frm.length ≤ 1000 ∧ e.til.length ≤ 1000

theorem told_lt {α : Type} {c : Codec α} {w : World} {l : List α} {x : Ending} {w' : World} (h : ToldL c w l x w') (hs : 0 < c.size) : ∃ v, x = .returned v ∧ Ext w w' ∧ Sl c w' (fun b => b < w'.heap.size) v l :=
  let ⟨v, h1, h2, h3⟩ := h; ⟨v, h1, h2, h3.mono (fun _ _ hl => hl) (.inl hs)⟩

theorem tells_pr {w : World} {K : Nat → Prop} {m xv : Value} {st : PairS} (h : Pr w K m xv st) (hok : okP 1920 st) : ∃ I E L last g, TellsX m xv I E L last g ∧ I w := by
  match st, h, hok with
  | none, ⟨h1, h2⟩, _ =>
    subst h1 h2
    refine ⟨fun _ => True, [], [], 0, fun _ _ => ([], 0), ?_, trivial⟩
    exact
      { keep := fun _ _ => trivial
        lastM := fun {w} _ => (memo_lastN w).mono fun e w' h => ⟨h.1, by rw [← h.2]; exact Out.refl _ _⟩
        lastX := fun {w} _ => (r10_lastN w).mono fun e w' h => ⟨h.1, by rw [← h.2]; exact Out.refl _ _⟩
        entsM := fun {w} _ => (memo_entriesN w).mono fun e w' h => ⟨_, h.1, by rw [← h.2]; exact Out.refl _ _, Sl.nil _ _ _⟩
        entsX := fun {w} _ => (r10_entriesN w).mono fun e w' h => ⟨_, h.1, by rw [← h.2]; exact Out.refl _ _, Sl.nil _ _ _⟩
        spansM := fun {w} _ => (memo_spansN w).mono fun e w' h => ⟨_, h.1, by rw [← h.2]; exact Out.refl _ _, Sl.nil _ _ _⟩
        spansX := fun {w} _ => (r10_spansN w).mono fun e w' h => ⟨_, h.1, by rw [← h.2]; exact Out.refl _ _, Sl.nil _ _ _⟩
        size := fun {w} _ => (memo_sizeN w).mono fun e w' h => ⟨h.1, by rw [← h.2]; exact Out.refl _ _⟩
        getM := fun {w} _ _ key q _ hk => memo_getN w key hk q
        getX := fun {w} _ _ key q _ hk => r10_getN w key hk q
        lenE := by decide
        lenL := by decide
        smE := fun _ h => by cases h
        smL := fun _ h => by cases h }
  | some (s, x), ⟨FM, FX, M, R, e1, e2, hm, hx, f1, f2, f3⟩, ⟨hr, hg, hn, hxl⟩ =>
    subst e1 e2
    refine ⟨fun w => MmS w FM M s ∧ Rx w FX R x, entsX x, spansX x, lastX x, getX x, ?_, hm, hx⟩
    have hel := entsX_len x
    have hsl : (spansX x).length ≤ x.length := by
      unfold spansX
      rw [List.length_map]
      exact List.length_filter_le _ _
    exact
      { keep := fun h hx => ⟨Mm.ext h.1 hx, h.2.ext hx⟩
        lastM := fun {w} h => (memo_lastE h.1 hr.last).mono fun e w' h => ⟨h.1, by rw [← h.2]; exact Out.refl _ _⟩
        lastX := fun {w} h => r10_last h.2 hg (by omega)
        entsM := fun {w} h => (memo_entriesE h.1 hr.m (by omega)).mono fun _ _ h => told_lt h (by decide)
        entsX := fun {w} h => r10_entries h.2 hg (by omega)
        spansM := fun {w} h => (memo_spansE h.1 hr.l (by omega)).mono fun _ _ h => told_lt h (by decide)
        spansX := fun {w} h => r10_spans h.2 hg (by omega)
        size := fun {w} h => (memo_sizeE h.1 (hr.sz.trans (sum_size x).symm)).mono fun e w' h => ⟨h.1, by rw [← h.2]; exact Out.refl _ _⟩
        getM := fun {w} F kv key q h hk => by
          have h1 := memo_get h.1 key hk q
          rw [get_rel hr hg] at h1
          exact h1
        getX := fun {w} _ _ key q h hk => r10_get h.2 hg (by omega) key hk q
        lenE := by omega
        lenL := by omega
        smE := fun e he => by
          obtain ⟨p, hp, -, rfl⟩ := mem_entsX.1 he
          obtain ⟨-, -, h1, h2, -⟩ := ocheck_ok (hg.2 p hp).1
          exact ⟨by show p.1.key.length ≤ 1000; omega, by show p.1.val.length ≤ 1000; omega⟩
        smL := fun e he => by
          obtain ⟨p, hp, -, rfl⟩ := mem_spansX.1 he
          obtain ⟨-, -, h1, h2, -⟩ := ocheck_ok (hg.2 p hp).1
          exact ⟨by show p.1.key.length ≤ 1000; omega, by show p.1.val.length ≤ 1000; omega⟩ }
end Go.Proofs.Yteaanagljmcidaa

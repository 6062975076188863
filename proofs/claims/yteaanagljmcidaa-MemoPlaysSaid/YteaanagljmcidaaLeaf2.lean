/- Comparisons. -/
import Derived.Test.YteaanagljmcidaaLeaf
import Derived.Deep.RegionHeld3
import Derived.Deep.DrawnRows
import Derived.BigQuiet
import Derived.Deep.QuietTactic
import Derived.Handy
namespace Go.Proofs.Yteaanagljmcidaa
open Go.RowKit

theorem byteArray_push_foldl (l : List UInt8) : ∀ s : ByteArray, l.foldl ByteArray.push s = ⟨s.data ++ l.toArray⟩ := by
  induction l with
  | nil => intro s; simp
  | cons b l ih => intro s; rw [List.foldl_cons, ih]; simp [ByteArray.push]

theorem run_loadBytes {P : Program} {w : World} {b : Nat} : ∀ (l : List UInt8) (off : Nat) (acc : ByteArray), (∀ i (h : i < l.length), w.cell? ⟨b, off + i, none⟩ = some (byteV l[i])) →
    (Extern.Bytes.loadBytes ⟨b, off, none⟩ l.length acc).run P w = .ok (l.foldl ByteArray.push acc) w
  | [], off, acc, _ => by simp [Extern.Bytes.loadBytes]
  | x :: l, off, acc, h => by
    have h0 := h 0 (by simp)
    simp only [Nat.add_zero, List.getElem_cons_zero] at h0
    have hl : (load ⟨b, off, none⟩).run P w = .ok (byteV x) w := by simp [go_sem, h0]
    have ih := run_loadBytes (P := P) (w := w) (b := b) l (off + 1) (acc.push x) (fun i hi => by
      have := h (i + 1) (by simp; omega)
      simp only [List.getElem_cons_succ] at this
      rw [← this]; congr 2; omega)
    have ha : (⟨b, off, none⟩ : Addr).add 1 = ⟨b, off + 1, none⟩ := by simp [Addr.add]
    simp only [List.length_cons, Extern.Bytes.loadBytes, Sem.run_bind, hl, Result.andThen_ok, byteV, ha, List.foldl_cons]
    have hx : x.toNat.toUInt8 = x := by simp
    simp only [Int.toNat_natCast, hx]
    exact ih

theorem run_bytesOf {P : Program} {w : World} {F : Nat → Prop} {v : Value} {l : List UInt8} (h : Bs w F v l) : (Extern.Bytes.bytesOf v).run P w = .ok (strOf l) w := by
  obtain ⟨A, cap, rfl, h1, h2, h3, h4⟩ := h.form
  rcases A with _ | ad
  · have h0 := h4 rfl
    have hn : l = [] := List.eq_nil_of_length_eq_zero (by omega)
    subst hn
    simp [Extern.Bytes.bytesOf, strOf]; rfl
  · rcases Nat.eq_zero_or_pos l.length with h0 | h0
    · have hn : l = [] := List.eq_nil_of_length_eq_zero h0
      subst hn
      simp [Extern.Bytes.bytesOf, Extern.Bytes.loadBytes, strOf]; rfl
    · obtain ⟨b, off, hA, _, hat⟩ := Bs.cells h h0
      injection hA with hA
      subst hA
      have := run_loadBytes (P := P) l off .empty (fun i hi => hat i (byteV l[i]) (by simp [List.getElem?_eq_getElem hi]))
      simp only [Extern.Bytes.bytesOf]
      rw [this, byteArray_push_foldl]
      simp [strOf, ByteArray.empty, ByteArray.emptyWithCapacity]
      rfl

theorem find_range_shift (p : Nat → Bool) (n : Nat) : (List.range (n + 1)).find? p = if p 0 then some 0 else ((List.range n).find? fun i => p (i + 1)).map (· + 1) := by
  rw [List.range_succ_eq_map, List.find?_cons, List.find?_map]
  cases p 0 <;> simp [Function.comp_def]

theorem strOf_size (l : List UInt8) : (strOf l).size = l.length := by simp [strOf, ByteArray.size]

theorem strOf_get (l : List UInt8) (i : Nat) : (strOf l)[i]! = l.getD i 0 := by
  by_cases h : i < l.length
  · have h' : i < (strOf l).size := by rw [strOf_size]; exact h
    rw [getElem!_pos (strOf l) i h']
    show l.toArray[i] = _
    simp [List.getD, h]
    rfl
  · have h' : ¬ i < (strOf l).size := by rw [strOf_size]; exact h
    rw [getElem!_neg (strOf l) i h']
    simp [List.getD, h]
    rfl

theorem cmp_bcmp : ∀ a b : List UInt8, Extern.BytealgCompare.cmp (strOf a) (strOf b) = bcmp a b := by
  have key : ∀ a b : List UInt8, (match (List.range (min a.length b.length)).find? (fun i => a.getD i 0 != b.getD i 0) with
      | some i => if a.getD i 0 < b.getD i 0 then (-1 : Int) else 1
      | none => if a.length < b.length then -1 else if a.length > b.length then 1 else 0) = bcmp a b := by
    intro a
    induction a with
    | nil => intro b; cases b <;> simp [bcmp]
    | cons x a ih =>
      intro b
      cases b with
      | nil => simp [bcmp]
      | cons y b =>
        rw [List.length_cons, List.length_cons, Nat.succ_min_succ, find_range_shift]
        unfold bcmp
        simp only [List.getD_cons_zero, List.getD_cons_succ]
        by_cases hxy : x = y
        · subst hxy
          have ih' := ih b
          simp only [bne_self_eq_false, Bool.false_eq_true, if_false, UInt8.lt_irrefl]
          rw [← ih']
          cases hf : (List.range (min a.length b.length)).find? (fun i => a.getD i 0 != b.getD i 0) with
          | none => simp
          | some i => simp
        · have hne : (x != y) = true := by simpa using hxy
          simp only [hne, if_true, List.getD_cons_zero]
          by_cases hlt : x < y
          · simp [hlt]
          · have : y < x := by
              rcases UInt8.lt_or_lt_of_ne hxy with h | h
              · exact absurd h hlt
              · exact h
            simp [hlt, this]
  intro a b
  rw [← key a b]
  unfold Extern.BytealgCompare.cmp
  simp only [strOf_size, strOf_get]
  cases (List.range (min a.length b.length)).find? (fun i => a.getD i 0 != b.getD i 0) <;> rfl

theorem run_bytealg_compare {w : World} {F G : Nat → Prop} {a b : Value} {la lb : List UInt8} (ha : Bs w F a la) (hb : Bs w G b lb) :
    (callFunc 169 #[a, b]).run Try.prog w = .ok (.value (.int .i64 (bcmp la lb))) w := by
  rw [run_callFunc_extern (e := Extern.BytealgCompare.compare) Try.func169 (by kernel_rfl) (by kernel_rfl) (by kernel_rfl) (by kernel_rfl)]
  have hc : (Extern.BytealgCompare.compare #[a, b]).run Try.prog w = .ok (.int .i64 (bcmp la lb)) w := by
    change Sem.run Try.prog (do
      let x ← Extern.Bytes.bytesOf a
      let y ← Extern.Bytes.bytesOf b
      pure (goInt (Extern.BytealgCompare.cmp x y))) w = _
    simp only [Sem.run_bind, run_bytesOf ha, run_bytesOf hb, Result.andThen_ok, Sem.run_pure, cmp_bcmp]
    rfl
  rw [hc]; rfl

set_option maxHeartbeats 400000 in
theorem bytes_compare (w : World) {F G : Nat → Prop} {a b : Value} {la lb : List UInt8} (ha : Bs w F a la) (hb : Bs w G b lb) :
    Calls Try.prog 150 #[a, b] w fun e w' => e = .returned (.int .i64 (bcmp la lb)) ∧ w = w' := by
  have h1 := run_bytealg_compare ha hb
  clear ha hb
  go_enter Try.func150, Try.ntmps150
  go_wp2
  go_ret
  exact ⟨rfl, rfl⟩

set_option maxHeartbeats 400000 in
theorem atom_less (w : World) {F G : Nat → Prop} {a b : Value} {la lb : List UInt8} (ha : Bs w F a la) (hb : Bs w G b lb) :
    Calls Try.prog 128 #[a, b] w fun e w' => e = .returned (.bool (Op.bytesLess la lb)) ∧ w = w' := by
  have h2 := bcmp_neg la lb
  go_enter Try.func128, Try.ntmps128
  go_wp2_with (go_at_call 150; refine (bytes_compare _ ha hb).mono ?_; rintro e w' ⟨rfl, rfl⟩)
  go_ret
  exact ⟨rfl, rfl⟩

/-- -1, 0, 1. -/
def ncmp (x y : Nat) : Int := if x < y then -1 else if y < x then 1 else 0

set_option maxHeartbeats 400000 in
theorem cmp_u64 (w : World) (x y : Nat) : Calls Try.prog 151 #[.int .u64 x, .int .u64 y] w fun e w' => e = .returned (.int .i64 (ncmp x y)) ∧ w = w' := by
  unfold ncmp
  by_cases h1 : x < y
  · simp only [h1, if_true]
    have h1' : (x : Int) < y := by omega
    go_enter Try.func151, Try.ntmps151
    go_wp2
    go_ret
    exact ⟨rfl, rfl⟩
  · by_cases h2 : y < x
    · simp only [h1, h2, if_true, if_false]
      have h2' : (y : Int) < x := by omega
      go_enter Try.func151, Try.ntmps151
      go_wp2
      go_ret
      exact ⟨rfl, rfl⟩
    · simp only [h1, h2, if_false]
      go_enter Try.func151, Try.ntmps151
      go_wp2
      go_ret
      exact ⟨rfl, rfl⟩

set_option maxHeartbeats 400000 in
theorem cmp_u8 (w : World) (x y : Nat) : Calls Try.prog 152 #[.int .u8 x, .int .u8 y] w fun e w' => e = .returned (.int .i64 (ncmp x y)) ∧ w = w' := by
  unfold ncmp
  by_cases h1 : x < y
  · simp only [h1, if_true]
    have h1' : (x : Int) < y := by omega
    go_enter Try.func152, Try.ntmps152
    go_wp2
    go_ret
    exact ⟨rfl, rfl⟩
  · by_cases h2 : y < x
    · simp only [h1, h2, if_true, if_false]
      have h2' : (y : Int) < x := by omega
      go_enter Try.func152, Try.ntmps152
      go_wp2
      go_ret
      exact ⟨rfl, rfl⟩
    · simp only [h1, h2, if_false]
      go_enter Try.func152, Try.ntmps152
      go_wp2
      go_ret
      exact ⟨rfl, rfl⟩

/-- cmp.Or of three. -/
def or3 (x y z : Int) : Int := if x ≠ 0 then x else if y ≠ 0 then y else z

set_option maxHeartbeats 400000 in
theorem cmp_or (w : World) (b : Nat) (x y z : Int) (h0 : w.cell? ⟨b, 0, none⟩ = some (.int .i64 x)) (h1 : w.cell? ⟨b, 1, none⟩ = some (.int .i64 y)) (h2 : w.cell? ⟨b, 2, none⟩ = some (.int .i64 z)) :
    Calls Try.prog 149 #[.slice (some ⟨b, 0, none⟩) 3 3] w fun e w' => e = .returned (.int .i64 (or3 x y z)) ∧ w = w' := by
  unfold or3
  by_cases hx : x = 0
  · subst hx
    by_cases hy : y = 0
    · subst hy
      by_cases hz : z = 0
      · subst hz
        go_enter Try.func149, Try.ntmps149
        go_wp2
        go_rounds 4
        go_ret
        exact ⟨rfl, rfl⟩
      · have hz' : (z != 0) = true := by simpa using hz
        simp only [ne_eq, not_true_eq_false, if_false]
        clear hz
        go_enter Try.func149, Try.ntmps149
        go_wp2
        go_rounds 4
        go_ret
        exact ⟨rfl, rfl⟩
    · have hy' : (y != 0) = true := by simpa using hy
      simp only [ne_eq, not_true_eq_false, if_false, hy, not_false_eq_true, if_true]
      clear hy
      go_enter Try.func149, Try.ntmps149
      go_wp2
      go_rounds 4
      go_ret
      exact ⟨rfl, rfl⟩
  · have hx' : (x != 0) = true := by simpa using hx
    simp only [ne_eq, hx, not_false_eq_true, if_true]
    clear hx
    go_enter Try.func149, Try.ntmps149
    go_wp2
    go_rounds 4
    go_ret
    exact ⟨rfl, rfl⟩
end Go.Proofs.Yteaanagljmcidaa

/- A row of spans that is written over: what DeleteFunc needs. · glass: what needs a span; DeleteFunc. · A region that draws its order inside a round of a range over a function. · glass: Keep. · glass, in plain Lean: the document's map as of a number; what lies below what is kept. · ref04: ApplyAll, Get. -/
import Derived.Test.YteaanagljmcidaaPkF
import Derived.Test.YteaanagljmcidaaPkA
import Derived.Laws.IdiomCopy
import Derived.Test.YteaanagljmcidaaPkG
import Derived.Test.YteaanagljmcidaaPkD
namespace Go.Proofs.Yteaanagljmcidaa
open Go.RowKit

/-- At place k of row R lies span s, its bytes elsewhere. -/
def SpAt (w : World) (F : Nat → Prop) (R k : Nat) (s : SpanE) : Prop :=
  ∃ u v, w.cell? ⟨R, k * 3, none⟩ = some u ∧ w.cell? ⟨R, k * 3 + 1, none⟩ = some v ∧ w.cell? ⟨R, k * 3 + 2, none⟩ = some (u64V s.seq) ∧ Bs w F u s.frm ∧ Bs w F v s.til
/-- R is a row of n spans, at least. -/
def Row3 (w : World) (R n : Nat) : Prop := ∃ cur, w.heap[R]? = some (.cells cur 92) ∧ n * 3 ≤ cur.size

section
variable {w w' : World} {F : Nat → Prop} {R n : Nat}
theorem Row3.lt (h : Row3 w R n) : R < w.heap.size := let ⟨_, h, _⟩ := h; blk_lt h
theorem Row3.cell (h : Row3 w R n) {j : Nat} (hj : j < n * 3) : (w.cell? ⟨R, j, none⟩).isSome = true := by
  obtain ⟨cur, h1, h2⟩ := h
  rw [blk_cell h1, Array.getElem?_eq_getElem (by omega)]
  rfl
theorem Row3.free (h : Row3 w R n) (j : Nat) : w.frozen? ⟨R, j, none⟩ = false := by
  obtain ⟨cur, h1, h2⟩ := h
  exact blk_free h1 j
theorem Row3.set (h : Row3 w R n) (i : Nat) (u : Value) : Row3 (w.setCell ⟨R, i, none⟩ u) R n := by
  obtain ⟨cur, h1, h2⟩ := h
  exact ⟨_, blk_set h1 i u, by simpa using h2⟩
theorem Row3.out {S : Nat → Prop} (h : Row3 w R n) (ho : Out S w w') (hs : ¬ S R) : Row3 w' R n := by
  obtain ⟨cur, h1, h2⟩ := h
  exact ⟨cur, ho.blk h1 hs, h2⟩
theorem Row3.ext (h : Row3 w R n) (ho : Ext w w') : Row3 w' R n := h.out ho fun f => f
theorem Row3.sets : ∀ {vs : List Value} {o : Nat} {w : World}, Row3 w R n → Row3 (w.setCells R o vs) R n
  | [], _, _, h => h
  | v :: vs, o, _, h => Row3.sets (vs := vs) (o := o + 1) (h.set o v)
theorem out_sets : ∀ {vs : List Value} {o : Nat} {w0 w : World}, Out (fun b => b = R) w0 w → Out (fun b => b = R) w0 (w.setCells R o vs)
  | [], _, _, _, h => h
  | v :: vs, o, _, _, h => out_sets (vs := vs) (o := o + 1) (h.setCell (p := ⟨R, o, none⟩) (fun _ => rfl) v)
theorem SpAt.out {S : Nat → Prop} {k : Nat} {s : SpanE} (h : SpAt w F R k s) (ho : Out S w w') (hs : ¬ S R) (hF : ∀ b, b < w.heap.size → F b → ¬ S b) : SpAt w' F R k s := by
  obtain ⟨u, v, h1, h2, h3, h4, h5⟩ := h
  exact ⟨u, v, ho.cell h1 hs, ho.cell h2 hs, ho.cell h3 hs, h4.out ho hF, h5.out ho hF⟩
theorem SpAt.ext {k : Nat} {s : SpanE} (h : SpAt w F R k s) (ho : Ext w w') : SpAt w' F R k s := h.out ho (fun f => f) fun _ _ _ f => f
theorem bs_set (hF : ¬ F R) {u : Value} {l : List UInt8} (h : Bs w F u l) (i : Nat) (x : Value) : Bs (w.setCell ⟨R, i, none⟩ x) F u l :=
  h.out ((Out.refl (fun b => b = R) w).setCell (p := ⟨R, i, none⟩) (fun _ => rfl) x) fun _b _ hb e => hF (e ▸ hb)
theorem SpAt.far (hF : ¬ F R) {k i : Nat} {s : SpanE} (h : SpAt w F R k s) (hk : k * 3 ≠ i ∧ k * 3 + 1 ≠ i ∧ k * 3 + 2 ≠ i) (x : Value) : SpAt (w.setCell ⟨R, i, none⟩ x) F R k s := by
  obtain ⟨u, v, h1, h2, h3, h4, h5⟩ := h
  refine ⟨u, v, ?_, ?_, ?_, bs_set hF h4 i x, bs_set hF h5 i x⟩
  · rw [setCell_other (fun e => by injection e with e1 e2; exact hk.1 e2)]; exact h1
  · rw [setCell_other (fun e => by injection e with e1 e2; exact hk.2.1 e2)]; exact h2
  · rw [setCell_other (fun e => by injection e with e1 e2; exact hk.2.2 e2)]; exact h3
theorem SpAt.far3 (hF : ¬ F R) {k i : Nat} {s : SpanE} (h : SpAt w F R k s) (hk : k ≠ i) (x y z : Value) : SpAt (((w.setCell ⟨R, i * 3, none⟩ x).setCell ⟨R, i * 3 + 1, none⟩ y).setCell ⟨R, i * 3 + 2, none⟩ z) F R k s :=
  ((h.far hF (by omega) x).far hF (by omega) y).far hF (by omega) z
theorem SpAt.put (hF : ¬ F R) (hr : Row3 w R n) {i : Nat} (hi : i < n) {s : SpanE} {u v : Value} (hu : Bs w F u s.frm) (hv : Bs w F v s.til) : SpAt (((w.setCell ⟨R, i * 3, none⟩ u).setCell ⟨R, i * 3 + 1, none⟩ v).setCell ⟨R, i * 3 + 2, none⟩ (u64V s.seq)) F R i s := by
  obtain ⟨x, hx⟩ := Option.isSome_iff_exists.1 (hr.cell (j := i * 3) (by omega))
  obtain ⟨y, hy⟩ := Option.isSome_iff_exists.1 ((hr.set (i * 3) u).cell (j := i * 3 + 1) (by omega))
  obtain ⟨z, hz⟩ := Option.isSome_iff_exists.1 (((hr.set (i * 3) u).set (i * 3 + 1) v).cell (j := i * 3 + 2) (by omega))
  refine ⟨u, v, ?_, ?_, setCell_same hz, bs_set hF (bs_set hF (bs_set hF hu _ _) _ _) _ _, bs_set hF (bs_set hF (bs_set hF hv _ _) _ _) _ _⟩
  · rw [setCell_other (fun e => by injection e with e1 e2; omega), setCell_other (fun e => by injection e with e1 e2; omega)]
    exact setCell_same hx
  · rw [setCell_other (fun e => by injection e with e1 e2; omega)]
    exact setCell_same hy
theorem Row3.put (hr : Row3 w R n) (i : Nat) (x y z : Value) : Row3 (((w.setCell ⟨R, i * 3, none⟩ x).setCell ⟨R, i * 3 + 1, none⟩ y).setCell ⟨R, i * 3 + 2, none⟩ z) R n := ((hr.set _ _).set _ _).set _ _
theorem SpAt.sets (hF : ¬ F R) {k i : Nat} {s : SpanE} (hk : k < i) : ∀ {vs : List Value} {o : Nat} {w : World}, i * 3 ≤ o → SpAt w F R k s → SpAt (w.setCells R o vs) F R k s
  | [], _, _, _, h => h
  | v :: vs, o, _, ho, h => SpAt.sets hF hk (vs := vs) (o := o + 1) (by omega) (h.far hF (by omega) v)
/-- The first ones, read as a list. -/
theorem spans_sl (hr : Row3 w R n) {l : List SpanE} (hl : l.length ≤ n) {cap : Nat} (hc : n ≤ cap) (hm : cap ≤ maxLen) (hb : l.length ≤ 1000000) (h : ∀ k (hk : k < l.length), SpAt w F R k l[k]) : Sl spanC w (fun b => F b ∨ b = R) (.slice (some ⟨R, 0, none⟩) l.length cap) l := by
  refine ⟨_, cap, rfl, by omega, hm, by show _ ≤ 140737488355328; omega, (fun h => by cases h), fun i hi => ?_⟩
  obtain ⟨u, v, h1, h2, h3, h4, h5⟩ := h i hi
  refine ⟨R, 0, [u, v, u64V l[i].seq], rfl, .inr rfl, ⟨fun j x hx => ?_, fun j _ => hr.free _⟩, u, v, rfl, h4.mono (fun b hb _ => .inl hb) (.inl (by decide)), h5.mono (fun b hb _ => .inl hb) (.inl (by decide))⟩
  have e0 : (0 : Nat) + i * spanC.size = i * 3 := by show 0 + i * 3 = i * 3; omega
  rw [e0]
  match j, hx with
  | 0, hx => injection hx with hx; subst hx; exact h1
  | 1, hx => injection hx with hx; subst hx; exact h2
  | 2, hx => injection hx with hx; subst hx; exact h3
/-- An owned list of spans: its row. -/
theorem own_row3 {D : Nat} {v : Value} {l : List SpanE} (h : Own spanC 92 w D F v l) (hp : 0 < l.length) : ∃ R cap, v = .slice (some ⟨R, 0, none⟩) l.length cap ∧ l.length ≤ cap ∧ cap ≤ maxLen ∧ D ≤ R ∧ R < w.heap.size ∧ Row3 w R l.length ∧ ∀ k (hk : k < l.length), SpAt w (fun b => F b ∧ b ≠ R) R k l[k] := by
  obtain ⟨R, cap, x, y, hv, -⟩ := h.spanAt 0 hp
  subst hv
  have hsp := fun k hk => h.spanAt k hk
  obtain ⟨xs, ho, he⟩ := h
  rcases ho.2 with ⟨e, h0⟩ | ⟨g, cap', cur, e, hb, hg, hnc, hcm, hcs, -⟩
  · cases e
  · injection e with e1 e2 e3
    injection e1 with e1
    injection e1 with e1
    subst e1 e3
    refine ⟨R, cap, rfl, hnc, hcm, hb, blk_lt hg, ⟨cur, hg, by rw [hcs]; exact Nat.mul_le_mul_right 3 hnc⟩, fun k hk => ?_⟩
    obtain ⟨R', cap', x, y, hv, -, h1, h2, h3, h4, h5⟩ := hsp k hk
    injection hv with hv1 hv2 hv3
    injection hv1 with hv1
    injection hv1 with hv1
    subst hv1
    exact ⟨x, y, h1, h2, h3, h4, h5⟩
/-- clear. -/
theorem run_clear3 (hr : Row3 w R n) {i m c : Nat} (hi : i + m ≤ n) : ∃ zs, ∀ ty, (Builtin.clear_ #[82] ty #[.slice (some ⟨R, i * 3, none⟩) m c]).run Try.prog w = .ok (.tuple #[]) (w.setCells R (i * 3) zs) := by
  rcases Nat.eq_zero_or_pos m with rfl | hm
  · exact ⟨[], by simp [Builtin.clear_, run_underlying Try.underlying82, World.setCells]⟩
  · obtain ⟨m, rfl⟩ : ∃ k, m = k + 1 := ⟨m - 1, by omega⟩
    have hz : ∀ w, (zeroValue 92).run Try.prog w = .ok (.agg #[.slice none 0 0, .slice none 0 0, .int .u64 0]) w := fun w => by
      obtain ⟨i, z, h1, h2, -⟩ := fits92.info
      have h3 : (Try.prog.info? 92).map (fun i => i.zero) = some (some (.agg #[.slice none 0 0, .slice none 0 0, .int .u64 0])) := by kernel_rfl
      rw [h1] at h3
      simp only [Option.map_some, Option.some.injEq] at h3
      simp [zeroValue, typeInfo, h1, h3]
    have hlen : (Builtin.zeroCells #[.slice none 0 0, .slice none 0 0, .int .u64 0] (m + 1)).toList.length = (m + 1) * 3 := by simp [Builtin.zeroCells]
    have hone : ∀ v ∈ (Builtin.zeroCells #[.slice none 0 0, .slice none 0 0, .int .u64 0] (m + 1)).toList, v.oneCell' = true := by
      intro v hv
      simp only [Builtin.zeroCells, Array.toList_map, List.mem_map] at hv
      obtain ⟨j, -, rfl⟩ := hv
      have h3 : j % 3 < 3 := Nat.mod_lt _ (by decide)
      show (#[Value.slice none 0 0, .slice none 0 0, .int .u64 0][j % 3]!).oneCell' = true
      generalize j % 3 = q at *
      match q, h3 with
      | 0, _ => rfl
      | 1, _ => rfl
      | 2, _ => rfl
    refine ⟨(Builtin.zeroCells #[.slice none 0 0, .slice none 0 0, .int .u64 0] (m + 1)).toList, ?_⟩
    have hst := run_storeCells_cells (P := Try.prog) R (i * 3) (Builtin.zeroCells #[.slice none 0 0, .slice none 0 0, .int .u64 0] (m + 1)).toList 0 w (fun j hj => by rw [hlen] at hj; exact hr.cell (by omega)) (fun j _ => hr.free _) hone
    simp only [Nat.add_zero] at hst
    simp [Builtin.clear_, run_underlying Try.underlying82, hz, hst, Value.cells]
end
end Go.Proofs.Yteaanagljmcidaa
namespace Go.Proofs.Yteaanagljmcidaa
open Go.RowKit

attribute [local go_sem ↓] Go.wp_at_zero Go.wp_at_succ

def maxSeq : UInt64 := 72057594037927935
def needs1 (s : SpanE) (e : Ent) : Bool := decide (e.key.seq.toNat < s.seq.toNat) && coversB s e.key.user
theorem needsE_any (out : List Ent) (s : SpanE) : needsE out s = out.any (needs1 s) := rfl
set_option maxHeartbeats 1000000 in
theorem keep127 (w : World) {F H : Nat → Prop} {u y a b : Value} (e : Ent) (s : SpanE) {B : Nat} (hu : Bs w F u e.key.user) (hy : Bs w F y e.value)
    (h0 : w.cell? ⟨B, 0, none⟩ = some a) (h1 : w.cell? ⟨B, 1, none⟩ = some b) (h2 : w.cell? ⟨B, 2, none⟩ = some (u64V s.seq)) (ha : Bs w H a s.frm) (hb : Bs w H b s.til) :
    Calls Try.prog 127 #[.agg #[u, u64V e.key.seq, byteV e.key.kind, y], .pointer (some ⟨B, 0, none⟩)] w fun r w' => r = .returned (.bool (needs1 s e)) ∧ Ext w w' := by
  obtain ⟨U, N, n, rfl⟩ := hu.form0
  obtain ⟨V, M, m, rfl⟩ := hy.form0
  obtain ⟨A, K, k, rfl⟩ := ha.form0
  obtain ⟨C, J, j, rfl⟩ := hb.form0
  have x1 := Ext.alloc1 w (.cells #[.slice U N n, u64V e.key.seq, byteV e.key.kind, .slice V M m] 32)
  obtain ⟨z0, z1, z2, z3, -⟩ := cells4 (blk_new w (.cells #[.slice U N n, u64V e.key.seq, byteV e.key.kind, .slice V M m] 32))
  have d0 := cell_alloc h0 (.cells #[.slice U N n, u64V e.key.seq, byteV e.key.kind, .slice V M m] 32)
  have d1 := cell_alloc h1 (.cells #[.slice U N n, u64V e.key.seq, byteV e.key.kind, .slice V M m] 32)
  have d2 := cell_alloc h2 (.cells #[.slice U N n, u64V e.key.seq, byteV e.key.kind, .slice V M m] 32)
  have H1 := Lib.hid (atom_less _ (hu.ext x1) (ha.ext x1))
  have H2 := Lib.hid (atom_less _ (hu.ext x1) (hb.ext x1))
  have Hn : Hid (needs1 s e = (decide (e.key.seq.toNat < s.seq.toNat) && (!Op.bytesLess e.key.user s.frm && Op.bytesLess e.key.user s.til))) := Lib.hid rfl
  have X1 := Lib.hid x1
  generalize Op.bytesLess e.key.user s.frm = p at *
  generalize Op.bytesLess e.key.user s.til = q at *
  clear hu hy ha hb x1
  obtain ⟨mk1, -⟩ : ∃ x : Nat, x = 0 := ⟨0, rfl⟩
  by_cases hlt : e.key.seq.toNat < s.seq.toNat
  · have hlti : ((e.key.seq.toNat : Nat) : Int) < ((s.seq.toNat : Nat) : Int) := by omega
    have Hn2 : Hid (needs1 s e = (!p && q)) := Lib.hid (by rw [Hn.out, decide_eq_true hlt, Bool.true_and])
    clear hlt Hn
    cases p
    · go_enter Try.func127, Try.ntmps127
      go_wp2_with (first
        | (have hh := mk1; clear hh; go_at_call 128; refine H1.out.mono ?_; rintro r w1 ⟨rfl, rfl⟩; clear mk1)
        | (go_at_call 128; refine H2.out.mono ?_; rintro r w1 ⟨rfl, rfl⟩))
      go_ret
      exact ⟨by rw [Hn2.out]; simp, X1.out⟩
    · go_enter Try.func127, Try.ntmps127
      go_wp2_with (go_at_call 128; refine H1.out.mono ?_; rintro r w1 ⟨rfl, rfl⟩)
      go_ret
      exact ⟨by rw [Hn2.out]; simp, X1.out⟩
  · have hlti : ¬ ((e.key.seq.toNat : Nat) : Int) < ((s.seq.toNat : Nat) : Int) := by omega
    have Hn2 : Hid (needs1 s e = false) := Lib.hid (by rw [Hn.out, decide_eq_false hlt, Bool.false_and])
    clear hlt Hn
    go_enter Try.func127, Try.ntmps127
    go_wp2
    go_ret
    exact ⟨by rw [Hn2.out]; rfl, X1.out⟩

theorem keep125 (w : World) {F H : Nat → Prop} {a b xv : Value} (l : List Ent) (s : SpanE) {B : Nat} (hb0 : w.cell? ⟨B, 0, none⟩ = some xv) (hx : Sl entC w F xv l) (ha : Bs w H a s.frm) (hb : Bs w H b s.til) :
    Calls Try.prog 125 #[.agg #[a, b, u64V s.seq], .pointer (some ⟨B, 0, none⟩)] w fun r w' => r = .returned (.bool (!needsE l s)) ∧ Ext w w' := by
  obtain ⟨A, K, k, rfl⟩ := ha.form0
  obtain ⟨C, J, j, rfl⟩ := hb.form0
  have x1 := Ext.alloc1 w (.cells #[.slice A K k, .slice C J j, u64V s.seq] 92)
  obtain ⟨z0, z1, z2, -⟩ := cells3 (blk_new w (.cells #[.slice A K k, .slice C J j, u64V s.seq] 92))
  have d0 := cell_alloc hb0 (.cells #[.slice A K k, .slice C J j, u64V s.seq] 92)
  have HC := Lib.hid (contains_ents (w.alloc (.cells #[.slice A K k, .slice C J j, u64V s.seq] 92)) 127 (enters_of Try.func127 (by kernel_rfl) rfl) #[.pointer (some ⟨w.heap.size, 0, none⟩)] l (hx.ext x1) (needs1 s)
    (fun w1 u v e _ hx1 hu hv => keep127 w1 e s hu hv (hx1.cell z0 (fun f => f)) (hx1.cell z1 (fun f => f)) (hx1.cell z2 (fun f => f)) (ha.ext (x1.ext hx1)) (hb.ext (x1.ext hx1))))
  obtain ⟨X, N, n, rfl⟩ := hx.form0
  have X1 := Lib.hid x1
  have Hn := Lib.hid (needsE_any l s)
  generalize l.any (needs1 s) = q at *
  clear hx ha hb x1
  go_enter Try.func125, Try.ntmps125
  go_wp2_with (go_at_call 126; refine HC.out.mono ?_; rintro r w1 ⟨rfl, hx1⟩)
  go_ret
  exact ⟨by rw [Hn.out]; rfl, X1.out.ext hx1⟩

/-! ### DeleteFunc -/
theorem keep_first {p : SpanE → Bool} {l : List SpanE} {i : Nat} (hi : i < l.length) (hp : p l[i] = true) (hno : ∀ j (_ : j < i) (hj : j < l.length), p l[j] = false) : (l.take (i + 1)).filter (fun s => !p s) = l.take i := by
  rw [List.take_succ_eq_append_getElem hi, List.filter_append]
  have h1 : (l.take i).filter (fun s => !p s) = l.take i := by
    rw [List.filter_eq_self]
    intro s hs
    obtain ⟨j, hj, rfl⟩ := List.getElem_of_mem hs
    rw [List.length_take] at hj
    rw [List.getElem_take, hno j (by omega) (by omega)]
    rfl
  rw [h1]
  simp [hp]
theorem keep_next (p : SpanE → Bool) {l : List SpanE} {j : Nat} (hj : j < l.length) : (l.take (j + 1)).filter (fun s => !p s) = (l.take j).filter (fun s => !p s) ++ if p l[j] = true then [] else [l[j]] := by
  rw [List.take_succ_eq_append_getElem hj, List.filter_append]
  congr 1
  by_cases h : p l[j] = true <;> simp [h]

set_option maxRecDepth 100000 in
set_option maxHeartbeats 4000000 in
theorem delete_spans (w : World) (gf : Nat) (eg : ∀ args w, (callFunc gf args).run Try.prog w = .ok (.enter gf args) w) (lb : Array Value) {F : Nat → Prop} {xv : Value} {D : Nat} (l : List SpanE) (hx : Own spanC 92 w D F xv l) (hl : l.length ≤ 1000) (p : SpanE → Bool)
    (hc : ∀ w1 (u v : Value) (e : SpanE), e ∈ l → Out (fun b => D ≤ b) w w1 → Bs w1 (fun _ => True) u e.frm → Bs w1 (fun _ => True) v e.til → Calls Try.prog gf (#[.agg #[u, v, u64V e.seq]] ++ lb) w1 fun r w2 => r = .returned (.bool (p e)) ∧ Ext w1 w2) :
    Calls Try.prog 124 #[xv, .func (.func gf) #[] lb] w fun r w' => ∃ v, r = .returned v ∧ Out (fun b => D ≤ b) w w' ∧ Sl spanC w' (fun b => F b ∨ D ≤ b) v (l.filter fun s => !p s) := by
  have HI := Lib.hid (index_spans w gf eg lb l (hx.sl (G := fun _ => True) (by decide) (by show _ ≤ 140737488355328; omega) (fun _ _ _ => trivial) (fun _ _ _ => trivial)) p (fun w1 u v e he hx1 hu hv => hc w1 u v e he (hx1.mono fun _ _ f => f.elim) hu hv))
  rcases idxI_spec p l with ⟨hz, hno⟩ | ⟨i0, hz, hi0, hp0, hno⟩
  · have HS := Lib.hid fun w1 (h : Ext w w1) => (hx.ext h).sl (G := fun b => F b ∨ D ≤ b) (by decide) (by show _ ≤ 140737488355328; omega) (fun b hb _ => .inl hb) (fun b hb _ => .inr hb)
    have Hf : Hid ((l.filter fun s => !p s) = l) := Lib.hid (List.filter_eq_self.2 fun s hs => by rw [hno s hs]; rfl)
    rw [hz] at HI
    obtain ⟨A, n, c, rfl⟩ := hx.form0
    clear hx hc hz hno
    go_enter Try.func124, Try.ntmps124
    go_wp2_with (go_at_call 162; refine HI.out.mono ?_; rintro r w1 ⟨rfl, hx1⟩)
    go_ret
    exact ⟨_, rfl, hx1.mono fun _ _ f => f.elim, by rw [Hf.out]; exact HS.out _ hx1⟩
  · rw [hz] at HI
    obtain ⟨R, cap, rfl, hcap, hmax, hDR, hRw, hrow, hsp⟩ := own_row3 hx (by omega)
    have hl0 : l.length ≤ 1000 := hl
    have HC := Lib.hid hc
    have Hrow := Lib.hid hrow
    have Hsp := Lib.hid hsp
    have Hk0 := Lib.hid (keep_first hi0 hp0 hno)
    have HF0 : ¬ (F R ∧ R ≠ R) := fun h => h.2 rfl
    have hm1 : (((i0 : Nat) : Int) == -1) = false := by rw [beq_eq_false_iff_ne]; omega
    clear hx hc hrow hsp hp0 hno hz
    go_enter Try.func124, Try.ntmps124
    go_wp2_with (go_at_call 162; refine HI.out.mono ?_; rintro r w0 ⟨rfl, hx0⟩; have HX0 := Lib.hid hx0; clear hx0)
    go_loopw [5, 6] (fun s5 s6 wr => ∃ i j : Nat, i < j ∧ j ≤ l.length ∧ s5 = .int .i64 i ∧ s6 = .int .i64 j ∧ Hid (((l.take j).filter fun s => !p s).length = i) ∧ Hid (∀ k (hk : k < ((l.take j).filter fun s => !p s).length), SpAt wr (fun b => F b ∧ b ≠ R) R k ((l.take j).filter fun s => !p s)[k]) ∧ Hid (∀ k (hk : k < l.length), j ≤ k → SpAt wr (fun b => F b ∧ b ≠ R) R k l[k]) ∧ Hid (Row3 wr R l.length) ∧ Hid (Out (fun b => b = R) w wr)) (fun _ s6 _ => l.length - (intOf s6).toNat)
    case atStart =>
      refine ⟨i0, i0 + 1, by omega, by omega, rfl, by go_num, Lib.hid (by rw [Hk0.out, List.length_take]; omega), Lib.hid fun k hk => ?_, Lib.hid fun k hk _ => (Hsp.out k hk).ext HX0.out, Lib.hid (Hrow.out.ext HX0.out), Lib.hid (HX0.out.mono fun _ _ f => f.elim)⟩
      simp only [Hk0.out] at hk ⊢
      rw [List.length_take] at hk
      rw [List.getElem_take]
      exact (Hsp.out k (by omega)).ext HX0.out
    case round =>
      obtain ⟨wo, rfl⟩ : ∃ x : World, x = wr := ⟨_, rfl⟩
      obtain ⟨i, j, hij, hj, rfl, rfl, Hlen, Hkept, Hrest, HR, HO⟩ := hrel
      have hRo : R < wo.heap.size := HR.out.lt
      by_cases hlt : j < l.length
      · obtain ⟨u, v, c0, c1, c2, hu, hv⟩ := Hrest.out j hlt (Nat.le_refl _)
        obtain ⟨U, N, n, rfl⟩ := hu.form0
        obtain ⟨V, M, m, rfl⟩ := hv.form0
        have x1 := Ext.alloc1 wo (.cells #[.slice U N n, .slice V M m, u64V l[j].seq] 92)
        obtain ⟨z0, z1, z2, -⟩ := cells3 (blk_new wo (.cells #[.slice U N n, .slice V M m, u64V l[j].seq] 92))
        have HA := HC.out (wo.alloc (.cells #[.slice U N n, .slice V M m, u64V l[j].seq] 92)) _ _ l[j] (List.getElem_mem hlt) ((HO.out.mono fun b _ e => e ▸ hDR).ext x1) ((hu.ext x1).mono (fun _ _ _ => trivial) (.inl (by decide))) ((hv.ext x1).mono (fun _ _ _ => trivial) (.inl (by decide)))
        have Hnext := Lib.hid (keep_next p hlt)
        have Hu := Lib.hid (hu.ext x1)
        have Hv := Lib.hid (hv.ext x1)
        have HZ := Lib.hid (blk_new wo (.cells #[.slice U N n, .slice V M m, u64V l[j].seq] 92))
        have X1 := Lib.hid x1
        clear hu hv x1
        have HE := Lib.hid (show l[j] = l[j] from rfl)
        have hseq : ∃ e, l[j] = e := ⟨_, rfl⟩
        obtain ⟨e, he⟩ := hseq
        rw [he] at c2 z2 HA HZ X1 Hu Hv Hnext
        have He := Lib.hid he
        clear HE he
        generalize hq : p e = q at *
        have HA := Lib.hid HA
        obtain ⟨K, hK⟩ : ∃ K, ((l.take j).filter fun s => !p s) = K := ⟨_, rfl⟩
        rw [hK] at Hlen Hnext
        have Hkp : Hid (∀ k (hk : k < K.length), SpAt wo (fun b => F b ∧ b ≠ R) R k K[k]) := Lib.hid (by rw [← hK]; exact Hkept.out)
        clear hK Hkept Hrow Hsp Hk0
        cases q with
        | true =>
          go_wp2_with (go_at_fn gf; refine HA.out.mono ?_; rintro r w1 ⟨rfl, hx1⟩)
          go_roundw
          case rel =>
            have hxx := X1.out.ext hx1
            have Hn2 : Hid (((l.take (j + 1)).filter fun s => !p s) = K) := Lib.hid (by rw [Hnext.out]; simp)
            exact ⟨i, j + 1, by omega, by omega, rfl, by go_num, Lib.hid (by rw [Hn2.out]; exact Hlen.out), Lib.hid (by rw [Hn2.out]; exact fun k hk => (Hkp.out k hk).ext hxx), Lib.hid fun k hk hjk => (Hrest.out k hk (by omega)).ext hxx, Lib.hid (HR.out.ext hxx), Lib.hid (HO.out.ext hxx)⟩
          case measure => simp [intOf] <;> omega
        | false =>
          have hil : i < l.length := by omega
          have hi0 : (0 : Int) ≤ (i : Int) := by omega
          have hi1 : (i : Int) < (l.length : Int) := by omega
          go_wp2_with (go_at_fn gf; refine HA.out.mono ?_; rintro r w1 ⟨rfl, hx1⟩; obtain ⟨y0, y1, y2, -⟩ := cells3 (hx1.blk HZ.out (fun f => f)); have HX1 := Lib.hid (X1.out.ext hx1); have Hr1 := Lib.hid (HR.out.ext HX1.out); obtain ⟨a0, e0⟩ := Option.isSome_iff_exists.1 (Hr1.out.cell (j := i * 3) (by omega)); obtain ⟨a1, e1⟩ := Option.isSome_iff_exists.1 (Hr1.out.cell (j := i * 3 + 1) (by omega)); obtain ⟨a2, e2⟩ := Option.isSome_iff_exists.1 (Hr1.out.cell (j := i * 3 + 2) (by omega)); have Hu1 := Lib.hid (Hu.out.ext hx1); have Hv1 := Lib.hid (Hv.out.ext hx1); have hfz := Hr1.out.free; clear hx1)
          go_roundw
          case rel =>
            have hO3 : Out (fun b => b = R) w1 (((w1.setCell ⟨R, i * 3, none⟩ (.slice U N n)).setCell ⟨R, i * 3 + 1, none⟩ (.slice V M m)).setCell ⟨R, i * 3 + 2, none⟩ (u64V e.seq)) := (((Out.refl (fun b => b = R) w1).setCell (p := ⟨R, i * 3, none⟩) (fun _ => rfl) _).setCell (p := ⟨R, i * 3 + 1, none⟩) (fun _ => rfl) _).setCell (p := ⟨R, i * 3 + 2, none⟩) (fun _ => rfl) _
            refine ⟨i + 1, j + 1, by omega, by omega, by go_num, by go_num, Lib.hid (by rw [Hnext.out, if_neg (by decide), List.length_append, Hlen.out]; rfl), Lib.hid ?_, Lib.hid fun k hk hjk => ((Hrest.out k hk (by omega)).ext HX1.out).far3 HF0 (by omega) _ _ _, Lib.hid (Hr1.out.put i _ _ _), Lib.hid ((HO.out.ext HX1.out).then hO3 (fun b _ h => h))⟩
            rw [Hnext.out, if_neg (by decide)]
            intro k hk
            rw [List.length_append, Hlen.out] at hk
            have hk' : k < i + 1 := hk
            rcases Nat.lt_or_ge k i with h | h
            · rw [List.getElem_append_left (by rw [Hlen.out]; exact h)]
              exact ((Hkp.out k (by rw [Hlen.out]; exact h)).ext HX1.out).far3 HF0 (by omega) _ _ _
            · obtain rfl : k = i := by omega
              rw [List.getElem_append_right (by rw [Hlen.out]; omega)]
              simp only [List.getElem_singleton]
              exact SpAt.put HF0 Hr1.out hil Hu1.out Hv1.out
          case measure => simp [intOf] <;> omega
      · obtain rfl : j = l.length := by omega
        rw [List.take_length] at Hlen Hkept
        obtain ⟨zs, hcl⟩ := run_clear3 HR.out (i := i) (m := l.length - i) (c := cap - i) (by omega)
        have hi0 : (0 : Int) ≤ (i : Int) := by omega
        have hi1 : (i : Int) ≤ (l.length : Int) := by omega
        have hi2 : (l.length : Int) ≤ (cap : Int) := by omega
        have hi3 : (i : Int) ≤ (cap : Int) := by omega
        clear Hrow Hsp Hk0
        go_wp2
        go_ret
        have hO3 := out_sets (R := R) (vs := zs) (o := i * 3) (Out.refl (fun b => b = R) wo)
        refine ⟨_, rfl, (HO.out.then hO3 (fun b _ h => h)).mono fun b _ e => e ▸ hDR, ?_⟩
        have := spans_sl (w := wo.setCells R (i * 3) zs) (F := fun b => F b ∧ b ≠ R) HR.out.sets (l := l.filter fun s => !p s) (List.length_filter_le _ _) hcap hmax (by have := List.length_filter_le (fun s => !p s) l; omega) (fun k hk => (Hkept.out k hk).sets HF0 (by have := Hlen.out; omega) (Nat.le_refl _))
        rw [Hlen.out] at this
        exact this.mono (fun b hb _ => hb.elim (fun h => .inl h.1) (fun h => .inr (h ▸ hDR))) (.inl (by decide))
end Go.Proofs.Yteaanagljmcidaa
namespace Go.Proofs.Yteaanagljmcidaa
open Go.RowKit
variable {P : Program} {ops : Array Oper} {Q : Exit → Act → World → Prop} {l n : Nat}

theorem upon_in {o : Oper} {a : Act} {next next' : Act → World → Prop} (hn : ∀ a w, next a w → next' a w) : ∀ r : Result Next, o.upon P a next Q r → o.uponIn (Fence.wide.inRound l) n P a next' Q r
  | .ok (.value _) _, h => hn _ _ h
  | .ok .skip _, h => hn _ _ h
  | .ok (.defer _) _, h => hn _ _ h
  | .ok (.enter _ _) _, h => ⟨fun h => (by simp [Fence.wide] at h), callsIn_wide.2 (Calls.mono h fun e w h => by
      cases e with
      | returned v => exact hn _ _ h
      | panicked c => exact h
      | outgrown => exact h)⟩
  | .ok (.row _ _) _, h => ⟨fun h => (by simp [Fence.wide] at h), fun c cs _ => by
      obtain ⟨v, w', r, s⟩ := h c cs
      exact ⟨v, w', hn _ _ r, stepsIn_wide.2 s⟩⟩
  | .halt (.panic _) _, h => h

theorem wpOps_in (hd : ∀ (i : Nat) (o : Oper) (c : Call), ops[i]? = some o → o.op ≠ .defer c) (hno : ¬ LetsOut Q) : ∀ (L : List Nat) (a : Act) (w : World), wpOps P ops Q L a w → wpOpsIn (Fence.wide.inRound l) n P ops Q L a w := by
  intro L
  induction L with
  | nil => exact fun _ _ h => h
  | cons i rest ih =>
    intro a w h
    unfold wpOps at h
    unfold wpOpsIn
    cases ho : ops[i]? with
    | none =>
      rw [ho] at h
      exact ih a w h
    | some o =>
      rw [ho] at h
      simp only at h ⊢
      split
      · rename_i hw
        rw [if_pos hw] at h
        rcases h with h | h
        · refine ⟨fun _ _ => trivial, ?_⟩
          rw [Oper.semAt_eq _ _ _ (fun c => hd i o c ho)]
          exact upon_in (fun a w h => ih a w h) _ h
        · exact absurd h.2 hno
      · rename_i hw
        rw [if_neg hw] at h
        exact ⟨fun _ _ => trivial, ih _ _ h⟩

def noDefer (ops : Array Oper) : Bool := ops.all fun o => match o.op with | .defer _ => false | _ => true
theorem noDefer_spec (h : noDefer ops = true) (i : Nat) (o : Oper) (c : Call) (ho : ops[i]? = some o) : o.op ≠ .defer c := by
  intro he
  unfold noDefer at h
  rw [Array.all_eq_true'] at h
  have := h o (Array.mem_of_getElem? ho)
  rw [he] at this
  cases this

theorem region_BI {id : Nat} {a : Act} {w : World} (b : Nat) (S : World → Prop) (hm : P.follows .mixedOrders = true) (hd : noDefer ops = true) (hno : ¬ LetsOut Q) (hS : S w.drew)
    (h : S w.drew → AnyB P .any ops Q S b ops.size (Array.replicate ops.size false) a w.drew) : (Code.region id ops true).wpIn (Fence.wide.inRound l) n P Q a w :=
  wpIn_region_draw fun t => wpOps_in (noDefer_spec hd) hno _ _ _ (by
    simp only [Region.schedule, hm, Bool.true_or, if_true]
    exact wpAny_sound ops.size t _ a _ (any_of_B _ _ _ _ (h hS)))
end Go.Proofs.Yteaanagljmcidaa
namespace Go.Proofs.Yteaanagljmcidaa
open Go.RowKit

attribute [local go_sem] Oper.semAt_some
attribute [local go_sem ↓] Go.wp_at_zero Go.wp_at_succ

theorem keepG_len (L : List SpanE) (qs : List UInt64) (bottom : Bool) (g : List Ent) : (keepG L qs bottom g).length ≤ g.length := by
  unfold keepG
  split
  · exact Nat.le_trans (bareE_sub _).length_le (List.length_filter_le _ _)
  · exact List.length_filter_le _ _

/-- What Keep's rounds read. -/
structure LensK (W : World) (Foot : Nat → Prop) (B6 B7 B10 T : Nat) (bottom : Bool) (qv : Value) (qs : List UInt64) (L : List SpanE) : Prop where
  c6 : W.cell? ⟨B6, 0, none⟩ = some (.bool bottom)
  c7 : W.cell? ⟨B7, 0, none⟩ = some qv
  c10 : W.cell? ⟨B10, 0, none⟩ = some (.pointer (some ⟨T, 0, none⟩))
  f6 : Foot B6
  f7 : Foot B7
  f10 : Foot B10
  sq : Sl u64C W Foot qv qs
  tb : ∃ FT v, Tb W FT T v L ∧ Foot T ∧ (∀ b, FT b → Foot b) ∧ ∀ b, v.ownBlock = some b → Foot b
section
variable {W W' : World} {Foot S : Nat → Prop} {B6 B7 B10 T : Nat} {bottom : Bool} {qv : Value} {qs : List UInt64} {L : List SpanE}
theorem LensK.out (h : LensK W Foot B6 B7 B10 T bottom qv qs L) (ho : Out S W W') (hs : ∀ b, Foot b → ¬ S b) : LensK W' Foot B6 B7 B10 T bottom qv qs L := by
  obtain ⟨FT, v, h1, h2, h3, h4⟩ := h.tb
  exact ⟨ho.cell h.c6 (hs _ h.f6), ho.cell h.c7 (hs _ h.f7), ho.cell h.c10 (hs _ h.f10), h.f6, h.f7, h.f10, h.sq.out ho (fun b _ hb => hs b hb), FT, v, h1.frame ho (hs _ h2) (fun b hb => hs b (h4 b hb)) (fun b _ hb => hs b (h3 b hb)), h2, h3, h4⟩
theorem LensK.ext (h : LensK W Foot B6 B7 B10 T bottom qv qs L) (ho : Ext W W') : LensK W' Foot B6 B7 B10 T bottom qv qs L := h.out ho fun _ _ f => f
theorem LensK.needed (h : LensK W Foot B6 B7 B10 T bottom qv qs L) {F : Nat → Prop} {xv : Value} (g : List Ent) (hx : Sl entC W F xv g) (hF : ∀ b, F b → b < W.heap.size) (hn : g.Nodup) (hl : g.length ≤ 1000) :
    Calls Try.prog 120 #[xv, .pointer (some ⟨T, 0, none⟩), qv] W fun r w' => ∃ v', r = .returned v' ∧ Ext W w' ∧ Sl entC w' (fun b => F b ∨ W.heap.size ≤ b) v' (g.filter (needP L g qs)) := by
  obtain ⟨FT, v, h1, -⟩ := h.tb
  exact gl_needed W L g qs h1 hx hF h.sq hn hl
theorem LensK.all (h : LensK W Foot B6 B7 B10 T bottom qv qs L) (hl : L.length ≤ 1000) : Calls Try.prog 123 #[.pointer (some ⟨T, 0, none⟩)] W (OwnedM spanC 92 W L) := by
  obtain ⟨FT, v, h1, -⟩ := h.tb
  exact tomb_all h1 (by omega)
end

set_option maxRecDepth 100000 in
set_option maxHeartbeats 8000000 in
theorem gl_keep (w : World) {F H Q : Nat → Prop} {xv sv qv : Value} (l : List Ent) (L : List SpanE) (qs : List UInt64) (bottom : Bool) (hx : Sl entC w F xv l) (hs : Sl spanC w H sv L) (hq : Sl u64C w Q qv qs) (hF : ∀ b, F b → b < w.heap.size)
    (hsort : SortedE l) (hL : ∀ s ∈ L, scheck s = 0) (hl1 : l.length ≤ 1000) (hl2 : L.length ≤ 1000) (hl3 : qs.length ≤ 900) :
    Calls Try.prog 64 #[xv, sv, .bool bottom, qv] w fun e w' => ∃ a b, e = .returned (.tuple #[a, b]) ∧ Ext w w' ∧ Sl entC w' (fun b => w.heap.size ≤ b) a (keepE l L bottom ((qs ++ [maxSeq]).map (·.toNat))) ∧ Sl spanC w' (fun b => w.heap.size ≤ b) b (leftE (keepE l L bottom ((qs ++ [maxSeq]).map (·.toNat))) L bottom) := by
  refine (callsIn_wide (n := 5)).1 ?_
  refine callsIn_of_wp_marks Try.func64 rfl trivial ?_ rfl
  simp only [Try.ntmps64, List.size_toArray, List.length_cons, List.length_nil, Nat.reduceAdd, Nat.reduceSub, Array.replicate_succ, Array.replicate_zero, List.push_toArray, List.append_toArray, List.nil_append, List.cons_append]
  refine wpIn_wide.2 ?_
  obtain ⟨A, cap, rfl, -⟩ := hx.form
  obtain ⟨S0, n0, c0, rfl⟩ := hs.form0
  obtain ⟨Z0, m0, k0, rfl⟩ := hq.form0
  have x1 : Ext w ((w.alloc (.cells #[.bool bottom] 4)).alloc (.cells #[.slice Z0 m0 k0] 83)) := (Ext.alloc1 _ _).alloc _
  have hb6 : ((w.alloc (.cells #[.bool bottom] 4)).alloc (.cells #[.slice Z0 m0 k0] 83)).heap[w.heap.size]? = some (.cells #[.bool bottom] 4) := blk_alloc (blk_new _ _) _
  have hb7 : ((w.alloc (.cells #[.bool bottom] 4)).alloc (.cells #[.slice Z0 m0 k0] 83)).heap[w.heap.size + 1]? = some (.cells #[.slice Z0 m0 k0] 83) := blk_at (by simp)
  have HB6 := Lib.hid hb6
  have HB7 := Lib.hid hb7
  have HT := Lib.hid (tomb_newL _ L (hs.ext x1) hL hl2)
  have Hq := Lib.hid hq
  have Hx := Lib.hid hx
  have X1 := Lib.hid x1
  have Hsort := Lib.hid hsort
  clear hx hs hq x1 hb6 hb7 hsort hL
  go_wp2_with (first
    | (go_at_call 117; refine HT.out.mono ?_; rintro r w1 ⟨T, FT, vt, rfl, hx1, htb, hFT, hvt, hTT⟩; have HX1 := Lib.hid hx1; have HTb := Lib.hid htb; have HFT := Lib.hid hFT; have Hvt := Lib.hid hvt; have HTT := Lib.hid hTT; have hz1 := hx1.size; simp only [World.size_alloc] at hz1; have e7 := (cells1 (hx1.blk HB7.out (fun f => f))).1; have e7b := cell_alloc e7 (.cells #[.pointer (some ⟨T, 0, none⟩)] 168); have HB7b := Lib.hid (blk_alloc (hx1.blk HB7.out (fun f => f)) (.cells #[.pointer (some ⟨T, 0, none⟩)] 168)); have HX2 := Lib.hid ((X1.out.ext hx1).alloc (.cells #[.pointer (some ⟨T, 0, none⟩)] 168)); clear hx1 htb hFT hvt hTT e7)
    | (go_at_call 118; refine (clone_nums _ qs (Hq.out.ext HX2.out) (by omega)).mono ?_; rintro r w2 ⟨v2, rfl, hx2, hown2⟩; obtain ⟨A2, k2, m2, rfl⟩ := hown2.form0; have HX3 := Lib.hid hx2; have HO2 := Lib.hid hown2; have hz2 := hx2.size; simp only [World.size_alloc] at hz2; clear hx2 hown2)
    | (at_builtin; refine wpList_append_one rfl (.tmp 20) (.tmp 21) 83 rfl fits83G (HO2.out.ext (Ext.alloc1 _ _)) rfl (by (try simp only [World.size_alloc]); omega) (blk_new _ _) rfl maxSeq rfl (by omega) (by decide) ?_; intro v4 w4 g1 g2 g3; obtain ⟨A4, k4, m4, rfl⟩ := g1.form0; have G1 := Lib.hid g1; have G2 := Lib.hid g2; clear g1 g2 g3; have HB7c := Lib.hid (G2.out.blk (blk_alloc (HX3.out.blk HB7b.out (fun f => f)) _) (fun e => by have := (HO2.out.lt _ e).1; simp only [World.size_alloc] at this; omega)); have e7d := (cells1 HB7c.out).1; have e7f := (cells1 HB7c.out).2)
    | (go_at_call 119; refine (keys_make _ _ _ _).mono ?_; rintro r w5 ⟨rfl, rfl⟩))
  obtain ⟨wp, hwp⟩ : ∃ x, x = w4.setCell ⟨w.heap.size + 1, 0, none⟩ (.slice A4 k4 m4) := ⟨_, rfl⟩
  have hzp : w4.heap.size = wp.heap.size := by rw [hwp]; simp [World.setCell]
  have hos : Out (fun b => b = w.heap.size + 1) w4 wp := by rw [hwp]; exact (Out.refl (fun b => b = w.heap.size + 1) w4).setCell (p := ⟨w.heap.size + 1, 0, none⟩) (fun _ => rfl) _
  have hb7 : wp.heap[w.heap.size + 1]? = some (.cells #[.slice A4 k4 m4] 83) := by rw [hwp]; exact blk_set1 HB7c.out _
  have hE4 : Ext (w1.alloc (.cells #[.pointer (some ⟨T, 0, none⟩)] 168)) w4 := (HX3.out.alloc _).then G2.out (fun b hb e => by have := (HO2.out.lt _ e).1; omega)
  have hTl := blk_lt HTb.out.blk
  have hzE := hE4.size
  rw [World.size_alloc] at hzE
  have hXp : Ext w wp := (HX2.out.ext hE4).then hos (fun b hb e => by omega)
  have hb6 : wp.heap[w.heap.size]? = some (.cells #[.bool bottom] 4) := hos.blk (hE4.blk (blk_alloc (HX1.out.blk HB6.out (fun f => f)) _) (fun f => f)) (fun e => by omega)
  have hb10 : wp.heap[w1.heap.size]? = some (.cells #[.pointer (some ⟨T, 0, none⟩)] 168) := hos.blk (hE4.blk (blk_new w1 _) (fun f => f)) (fun e => by omega)
  have htb : Tb wp FT T vt L := ((HTb.out.ext (Ext.alloc1 _ _)).ext hE4).frame hos (fun e => by have := HTT.out; simp only [World.size_alloc] at this; omega) (fun b hb e => by have := Hvt.out b hb; simp only [World.size_alloc] at this; omega) (fun b _ hb e => by have := HFT.out b hb; simp only [World.size_alloc] at this; omega)
  have hqs : Sl u64C wp (fun b => w.heap.size ≤ b ∧ b < wp.heap.size) (.slice A4 k4 m4) (qs ++ [maxSeq]) := ((G1.out.sl (G := fun b => w1.heap.size < b ∧ b < w4.heap.size) (by decide) (by show _ ≤ 140737488355328; rw [List.length_append]; simp only [List.length_singleton]; omega) (fun b hb hl => ⟨by rw [World.size_alloc] at hb; omega, hl⟩) (fun b hb hl => ⟨by rw [World.size_alloc] at hb; omega, hl⟩)).out hos (fun b _ hb e => by omega)).mono (fun b hb _ => by omega) (.inl (by decide))
  have hFT2 : ∀ b, FT b → w.heap.size ≤ b ∧ b < wp.heap.size := fun b hb => by have := HFT.out b hb; simp only [World.size_alloc] at this; omega
  have hvt2 : ∀ b, vt.ownBlock = some b → w.heap.size ≤ b ∧ b < wp.heap.size := fun b hb => by
    have h1 := Hvt.out b hb
    have h2 := (htb.own.lt b hb).2
    simp only [World.size_alloc] at h1
    omega
  have hTT2 : w.heap.size ≤ T ∧ T < wp.heap.size := by have := HTT.out; simp only [World.size_alloc] at this; omega
  have hLens : LensK wp (fun b => w.heap.size ≤ b ∧ b < wp.heap.size) w.heap.size (w.heap.size + 1) w1.heap.size T bottom (.slice A4 k4 m4) (qs ++ [maxSeq]) L :=
    ⟨(cells1 hb6).1, (cells1 hb7).1, (cells1 hb10).1, ⟨Nat.le_refl _, by omega⟩, ⟨by omega, by omega⟩, ⟨by omega, by omega⟩, hqs, FT, vt, htb, hTT2, hFT2, hvt2⟩
  have Hle : Hid (w.heap.size + 2 ≤ wp.heap.size) := Lib.hid (by omega)
  obtain ⟨qs2, hqs2⟩ : ∃ q2, q2 = qs ++ [maxSeq] := ⟨_, rfl⟩
  rw [← hqs2] at hLens
  have Hqs2 := Lib.hid hqs2
  rw [← hwp]
  simp only [hzp]
  have HLens0 := Lib.hid hLens
  have HXp := Lib.hid hXp
  have hw1p : w1.heap.size < wp.heap.size := by omega
  have hlep := Hle.out
  clear hLens hqs2 hTT2 hvt2 hFT2 hqs htb hb10 hb6 hXp hzE hTl hE4 hb7 hos hzp hwp HB7c e7d e7f G1 G2 HO2 HX3 HX2 HTT HFT Hvt HTb HX1 HB7b HT HB6 HB7 Hq X1 e7b hz1 hz2
  have hxr : Ext wp ((wp.alloc (.cells #[.slice none 0 0] 43)).alloc (.cells #[.slice A l.length cap] 43)) := (Ext.alloc1 _ _).alloc _
  have hbX : ((wp.alloc (.cells #[.slice none 0 0] 43)).alloc (.cells #[.slice A l.length cap] 43)).heap[wp.heap.size + 1]? = some (.cells #[.slice A l.length cap] 43) := blk_at (by simp)
  have hbO : ((wp.alloc (.cells #[.slice none 0 0] 43)).alloc (.cells #[.slice A l.length cap] 43)).heap[wp.heap.size]? = some (.cells #[.slice none 0 0] 43) := blk_alloc (blk_new _ _) _
  have hD : ((wp.alloc (.cells #[.slice none 0 0] 43)).alloc (.cells #[.slice A l.length cap] 43)).heap.size = wp.heap.size + 2 := by simp
  have HL0 := Lib.hid (HLens0.out.ext hxr)
  have HX9 := Lib.hid (HXp.out.ext hxr)
  have Hx9 := Lib.hid (Hx.out.ext HX9.out)
  clear hxr HLens0 Hx HXp
  refine (wpIn_wide (n := 5)).1 ?_
  refine wp_rangeFuncT (n := 5) 156 _ rfl (enters_of Try.func156 (by kernel_rfl) rfl) (wp.heap.size + 2)
    (keys_gives 4 (by omega) l Hx9.out Hsort.out (wp.heap.size + 1) hbX (fun h => by have := hF _ h; omega) (fun b => b = wp.heap.size ∨ wp.heap.size + 2 ≤ b) (fun b hb hk => by have := hF b hb; omega) (fun h => by omega) _ (by omega))
    hD (fun b hb => .inr hb) (fun b hb => by omega) (fun _ => rfl)
    (fun pre W => Out (fun b => b = wp.heap.size ∨ b = wp.heap.size + 1) ((wp.alloc (.cells #[.slice none 0 0] 43)).alloc (.cells #[.slice A l.length cap] 43)) W ∧ ∃ v, W.heap[wp.heap.size]? = some (.cells #[v] 43) ∧ Own entC 32 W (wp.heap.size + 4) (fun b => wp.heap.size + 4 ≤ b) v ((pre.map (·.l)).flatMap (keepG L qs2 bottom)) ∧ ((pre.map (·.l)).flatMap (keepG L qs2 bottom)).length ≤ pre.length * 1000)
    ?hI ⟨Out.refl _ _, _, hbO, Own.nil _ _ _ _ _, Nat.zero_le _⟩ ?round ?done
  case hI =>
    rintro pre A' B' ⟨h1, v1, h2, h3, h4⟩ hAB
    exact ⟨h1.then hAB (fun i hi e => by rcases e with e | e | e <;> omega), v1, hAB.blk h2 (fun e => by rcases e with e | e | e <;> omega), h3.frame hAB (fun b _ hb _ e => by rcases e with e | e | e <;> omega) (fun b _ hb _ e => by rcases e with e | e | e <;> omega), h4⟩
  case round =>
    rintro lp pre ⟨g, gv⟩ Wa W1 ⟨hout, v1, hG, hown, hbd⟩ hT01 hsz ⟨hgl, hgs, hgu, hgn⟩ hlen
    dsimp only at hgl hgs hgu hgn hlen
    obtain ⟨A1, c1, rfl, -⟩ := hgl.form
    obtain ⟨A3, n3, c3, rfl⟩ := hown.form0
    simp only [GV.enc]
    have hz1a := hT01.size
    have Hout := Lib.hid hout
    have HG := Lib.hid hG
    have Hown := Lib.hid hown
    have HT01 := Lib.hid hT01
    have Hgl := Lib.hid hgl
    have Hgs := Lib.hid hgs
    have Hgu := Lib.hid hgu
    clear hout hG hown hT01 hgl hgs hgu
    gi_wp2
    refine ⟨Out.refl _ _, fun W2 h2 => ?_⟩
    have hz2' := h2.size
    have HL2 := Lib.hid (((LensK.out HL0.out Hout.out (fun b hb e => by omega)).out HT01.out (fun b hb e => by omega)).out h2 (fun b hb e => by omega))
    have HG2 := Lib.hid (h2.blk (HT01.out.blk HG.out (fun e => by omega)) (fun e => by omega))
    have HO2 := Lib.hid ((Hown.out.frame HT01.out (fun b _ hb _ e => by omega) (fun b _ hb _ e => by omega)).frame h2 (fun b _ hb _ e => by omega) (fun b _ hb _ e => by omega))
    have Hg2 := Lib.hid (Hgl.out.out h2 (fun b _ hb e => by have := hF b hb; omega))
    have HW2 := Lib.hid ((Hout.out.trans (HT01.out.mono fun b _ h => .inr h)).then h2 (fun b hb e => by omega))
    have hF2 : ∀ b, F b → b < W2.heap.size := fun b hb => by have := hF b hb; omega
    have HN := Lib.hid (HL2.out.needed g Hg2.out hF2 Hgs.out.nodup (by omega))
    have Hsn : Hid (((pre ++ [(⟨g, .slice A1 g.length c1⟩ : GV)]).map (·.l)).flatMap (keepG L qs2 bottom) = (pre.map (·.l)).flatMap (keepG L qs2 bottom) ++ keepG L qs2 bottom g) := Lib.hid (by simp)
    obtain ⟨out, hpre⟩ : ∃ out, (pre.map (·.l)).flatMap (keepG L qs2 bottom) = out := ⟨_, rfl⟩
    rw [hpre] at HO2 hbd Hsn
    have hpl : pre.length ≤ 1000 := by omega
    have hol : out.length ≤ 1000000 := by omega
    clear hpre Hout HT01 HG Hown Hgl
    have c6 := HL2.out.c6
    have c7 := HL2.out.c7
    have c10 := HL2.out.c10
    cases bottom with
    | false =>
      gi_wp2_with (first
        | (refine ⟨trivial, ?_⟩; gi_at_call 120; refine (CallsIn.inRound _ (callsIn_wide.2 HN.out)).mono ?_; rintro r w6 ⟨v6, rfl, hX6, hk6⟩; obtain ⟨A6, n6, c6', rfl⟩ := hk6.form0; have d6 := hX6.cell c6 (fun f => f); clear c6 c7 c10))
      have hkl := keepG_len L qs2 false g
      obtain ⟨KG, hkg⟩ : ∃ KG, keepG L qs2 false g = KG := ⟨_, rfl⟩
      change Sl entC _ _ _ (keepG L qs2 false g) at hk6
      rw [hkg] at hk6 hkl Hsn
      have Hkg := Lib.hid hkg
      clear hkg
      obtain ⟨A13, c13, hk6f, -⟩ := hk6.form
      injection hk6f with hf1 hf2 hf3
      subst hf2
      clear hf1 hf3
      have Hk6 := Lib.hid hk6
      have HX6 := Lib.hid hX6
      have HO6 := Lib.hid (HO2.out.ext hX6)
      have HG6 := Lib.hid (hX6.blk HG2.out (fun f => f))
      have hz6 := hX6.size
      have hKl : KG.length ≤ 1000 := by omega
      have Hlt6 := Lib.hid HO2.out.lt
      clear hk6 hX6 hkl
      gi_wp2
      gi_loopw [35] (fun s35 wr => ∃ (i : Nat) (v : Value), i ≤ KG.length ∧ s35 = .int .i64 i ∧ Out (fun b => b = wp.heap.size ∨ wp.heap.size + 4 ≤ b ∧ b < W2.heap.size) w6 wr ∧ wr.heap[wp.heap.size]? = some (.cells #[v] 43) ∧ Own entC 32 wr (wp.heap.size + 4) (fun b => wp.heap.size + 4 ≤ b) v (out ++ KG.take i) ∧ (∀ b, v.ownBlock = some b → b < W2.heap.size ∨ w6.heap.size ≤ b)) (fun s35 _ => KG.length - (intOf s35).toNat)
      case atStart => exact ⟨0, _, Nat.zero_le _, rfl, Out.refl _ _, HG6.out, by rw [List.take_zero, List.append_nil]; exact HO6.out, fun b hb => .inl (Hlt6.out b hb).2⟩
      case round =>
        obtain ⟨wo, rfl⟩ : ∃ x : World, x = wr := ⟨_, rfl⟩
        obtain ⟨i, v8, hi, rfl, ho8, hG8, hown8, hv8⟩ := hrel
        obtain ⟨A8, n8, c8, rfl⟩ := hown8.form0
        have Ho8 := Lib.hid ho8
        have HG8 := Lib.hid hG8
        have Hown8 := Lib.hid hown8
        have Hv8 := Lib.hid hv8
        have Hlt8 := Lib.hid hown8.lt
        have hz8 := ho8.size
        clear ho8 hG8 hown8 hv8
        by_cases hlt : i < KG.length
        · have hk8 := Hk6.out.out Ho8.out (fun b hb hf e => by
            rcases hf with hf | hf
            · have := hF b hf
              rcases e with e | e <;> omega
            · rcases e with e | e <;> omega)
          obtain ⟨b1, o1, u1, v1', rfl, -, e0, e1, e2, e3, hu, hv⟩ := hk8.ent i hlt
          obtain ⟨U1, N1, n1, rfl⟩ := hu.form0
          obtain ⟨V1, M1, m1, rfl⟩ := hv.form0
          have Htk := Lib.hid (List.take_succ_eq_append_getElem hlt)
          have hot : (out ++ KG.take i).length ≤ 2000000 := by rw [List.length_append, List.length_take]; omega
          generalize KG[i] = e at *
          have x7 := Ext.alloc1 wo (.cells #[.slice U1 N1 n1, u64V e.key.seq, byteV e.key.kind, .slice V1 M1 m1] 32)
          have hz7 := blk_new wo (.cells #[.slice U1 N1 n1, u64V e.key.seq, byteV e.key.kind, .slice V1 M1 m1] 32)
          obtain ⟨z0, z1, z2, z3, -⟩ := cells4 hz7
          have HZ7 := Lib.hid hz7
          have HG7 := Lib.hid (x7.blk HG8.out (fun f => f))
          obtain ⟨k0, kf⟩ := cells1 HG7.out
          have Hu7 := Lib.hid ((hu.ext x7).drew)
          have Hv7 := Lib.hid ((hv.ext x7).drew)
          have HO7 := Lib.hid ((Hown8.out.ext x7).ext (Out.refl _ _).drew)
          have X7 := Lib.hid x7
          have hi0 : (0 : Int) ≤ (i : Int) := by omega
          have hi1 : (i : Int) < (KG.length : Int) := by omega
          clear hu hv hz7 x7 hk8
          gi_wp2
          refine region_BI 18 (fun w' => w'.cell? ⟨wp.heap.size, 0, none⟩ = some (.slice A8 n8 c8) ∧ w'.cell? ⟨wo.heap.size, 0, none⟩ = some (.slice U1 N1 n1) ∧ w'.cell? ⟨wo.heap.size, 1, none⟩ = some (u64V e.key.seq) ∧ w'.cell? ⟨wo.heap.size, 2, none⟩ = some (byteV e.key.kind) ∧ w'.cell? ⟨wo.heap.size, 3, none⟩ = some (.slice V1 M1 m1)) (by kernel_rfl) (by kernel_rfl) (by rintro ⟨aO, wO, hO⟩; exact hO) ?q64_12S (fun hHeld0 => ?_)
          case q64_12S => ((first | go_keep | ((try dsimp only); exact ⟨by assumption, by assumption, by assumption, by assumption, by assumption⟩)))
          refine anyB_take (i := 0) (oi := _) (v := ?q64_12v1) rfl (by kernel_rfl) (by kernel_rfl) (by kernel_rfl) (by kernel_rfl) (fun _ _ _ h => h) (Or.inl ⟨by rfl, ?q64_12h1⟩) (by assumption) ?q64_12r1
          case q64_12h1 => (intro w hSw; (try dsimp only at hSw); go_simp; try with_reducible rfl)
          (try simp only [List.getElem_toArray, List.getElem_cons_zero, Act.put, List.setIfInBounds_toArray, List.set_cons_zero, List.set_cons_succ])
          refine anyB_take (i := 1) (oi := _) (v := ?q64_12v2) rfl (by kernel_rfl) (by kernel_rfl) (by kernel_rfl) (by kernel_rfl) (fun _ _ _ h => h) (Or.inl ⟨by rfl, ?q64_12h2⟩) (by assumption) ?q64_12r2
          case q64_12h2 => (intro w hSw; (try dsimp only at hSw); go_simp; try with_reducible rfl)
          (try simp only [List.getElem_toArray, List.getElem_cons_succ, List.getElem_cons_zero, Act.put, List.setIfInBounds_toArray, List.set_cons_zero, List.set_cons_succ])
          refine anyB_take (i := 2) (oi := _) (v := ?q64_12v3) rfl (by kernel_rfl) (by kernel_rfl) (by kernel_rfl) (by kernel_rfl) (fun _ _ _ h => h) (Or.inl ⟨by rfl, ?q64_12h3⟩) (by assumption) ?q64_12r3
          case q64_12h3 => (intro w hSw; (try dsimp only at hSw); go_simp; try with_reducible rfl)
          (try simp only [List.getElem_toArray, List.getElem_cons_succ, List.getElem_cons_zero, Act.put, List.setIfInBounds_toArray, List.set_cons_zero, List.set_cons_succ])
          refine anyB_take (i := 3) (oi := _) (v := ?q64_12v4) rfl (by kernel_rfl) (by kernel_rfl) (by kernel_rfl) (by kernel_rfl) (fun _ _ _ h => h) (Or.inl ⟨by rfl, ?q64_12h4⟩) (by assumption) ?q64_12r4
          case q64_12h4 => (intro w hSw; (try dsimp only at hSw); go_simp; try with_reducible rfl)
          (try simp only [List.getElem_toArray, List.getElem_cons_succ, List.getElem_cons_zero, Act.put, List.setIfInBounds_toArray, List.set_cons_zero, List.set_cons_succ])
          refine anyB_take (i := 5) (oi := _) (v := ?q64_12v5) rfl (by kernel_rfl) (by kernel_rfl) (by kernel_rfl) (by kernel_rfl) (fun _ _ _ h => h) (Or.inl ⟨by rfl, ?q64_12h5⟩) (by assumption) ?q64_12r5
          case q64_12h5 => (intro w hSw; (try dsimp only at hSw); go_simp; try with_reducible rfl)
          (try simp only [List.getElem_toArray, List.getElem_cons_succ, List.getElem_cons_zero, Act.put, List.setIfInBounds_toArray, List.set_cons_zero, List.set_cons_succ])
          refine anyB_take (i := 6) (oi := _) (v := ?q64_12v6) rfl (by kernel_rfl) (by kernel_rfl) (by kernel_rfl) (by kernel_rfl) (fun _ _ _ h => h) (Or.inl ⟨by rfl, ?q64_12h6⟩) (by assumption) ?q64_12r6
          case q64_12h6 => (intro w hSw; (try dsimp only at hSw); go_simp; try with_reducible rfl)
          (try simp only [List.getElem_toArray, List.getElem_cons_succ, List.getElem_cons_zero, Act.put, List.setIfInBounds_toArray, List.set_cons_zero, List.set_cons_succ])
          refine anyB_take (i := 7) (oi := _) (v := ?q64_12v7) rfl (by kernel_rfl) (by kernel_rfl) (by kernel_rfl) (by kernel_rfl) (fun _ _ _ h => h) (Or.inl ⟨by rfl, ?q64_12h7⟩) (by assumption) ?q64_12r7
          case q64_12h7 => (intro w hSw; (try dsimp only at hSw); go_simp; try with_reducible rfl)
          (try simp only [List.getElem_toArray, List.getElem_cons_succ, List.getElem_cons_zero, Act.put, List.setIfInBounds_toArray, List.set_cons_zero, List.set_cons_succ])
          refine anyB_take (i := 8) (oi := _) (v := ?q64_12v8) rfl (by kernel_rfl) (by kernel_rfl) (by kernel_rfl) (by kernel_rfl) (fun _ _ _ h => h) (Or.inl ⟨by rfl, ?q64_12h8⟩) (by assumption) ?q64_12r8
          case q64_12h8 => (intro w hSw; (try dsimp only at hSw); go_simp; try with_reducible rfl)
          (try simp only [List.getElem_toArray, List.getElem_cons_succ, List.getElem_cons_zero, Act.put, List.setIfInBounds_toArray, List.set_cons_zero, List.set_cons_succ])
          refine anyB_take (i := 9) (oi := _) (v := ?q64_12v9) rfl (by kernel_rfl) (by kernel_rfl) (by kernel_rfl) (by kernel_rfl) (fun _ _ _ h => h) (Or.inl ⟨by rfl, ?q64_12h9⟩) (by assumption) ?q64_12r9
          case q64_12h9 => (intro w hSw; (try dsimp only at hSw); go_simp; try with_reducible rfl)
          (try simp only [List.getElem_toArray, List.getElem_cons_succ, List.getElem_cons_zero, Act.put, List.setIfInBounds_toArray, List.set_cons_zero, List.set_cons_succ])
          refine anyB_take (i := 10) (oi := _) (v := ?q64_12v10) rfl (by kernel_rfl) (by kernel_rfl) (by kernel_rfl) (by kernel_rfl) (fun _ _ _ h => h) (Or.inl ⟨by rfl, ?q64_12h10⟩) (by assumption) ?q64_12r10
          case q64_12h10 => (intro w hSw; (try dsimp only at hSw); go_simp; try with_reducible rfl)
          (try simp only [List.getElem_toArray, List.getElem_cons_succ, List.getElem_cons_zero, Act.put, List.setIfInBounds_toArray, List.set_cons_zero, List.set_cons_succ])
          refine anyB_take (i := 12) (oi := _) (v := ?q64_12v11) rfl (by kernel_rfl) (by kernel_rfl) (by kernel_rfl) (by kernel_rfl) (fun _ _ _ h => h) (Or.inl ⟨by rfl, ?q64_12h11⟩) (by assumption) ?q64_12r11
          case q64_12h11 => (intro w hSw; (try dsimp only at hSw); go_simp; try with_reducible rfl)
          (try simp only [List.getElem_toArray, List.getElem_cons_succ, List.getElem_cons_zero, Act.put, List.setIfInBounds_toArray, List.set_cons_zero, List.set_cons_succ])
          refine anyB_take (i := 13) (oi := _) (v := ?q64_12v12) rfl (by kernel_rfl) (by kernel_rfl) (by kernel_rfl) (by kernel_rfl) (fun _ _ _ h => h) (Or.inl ⟨by rfl, ?q64_12h12⟩) (by assumption) ?q64_12r12
          case q64_12h12 => (intro w hSw; (try dsimp only at hSw); go_simp; try with_reducible rfl)
          (try simp only [List.getElem_toArray, List.getElem_cons_succ, List.getElem_cons_zero, Act.put, List.setIfInBounds_toArray, List.set_cons_zero, List.set_cons_succ])
          refine anyB_step (i := 4) (o := _) (by kernel_rfl) (by rfl) (by (simp only [List.getElem?_toArray, List.getElem?_cons_succ, List.getElem?_cons_zero] <;> rfl)) (fun K hK => ?_)
          go_simp; go_at_call 122; refine (bytes_clone _ Hu7.out).mono ?_; rintro r w9 ⟨x9, rfl, hx9, hb9⟩; obtain ⟨U9, k9, m9, rfl⟩ := hb9.form0; have HX9 := Lib.hid hx9; have Hb9 := Lib.hid hb9; have HO9 := Lib.hid (HO7.out.ext hx9); have Hv9 := Lib.hid (Hv7.out.ext hx9); have HG9 := Lib.hid (hx9.blk (show (World.drew _).heap[_]? = _ from HG7.out) (fun f => f)); have HZ9 := Lib.hid (hx9.blk (show (World.drew _).heap[_]? = _ from HZ7.out) (fun f => f)); obtain ⟨p0, pf⟩ := cells1 HG9.out; obtain ⟨r0, r1, r2, r3, -⟩ := cells4 HZ9.out; have hz9 := hx9.size; simp only [World.size_drew, World.size_alloc] at hz9; clear hx9 hb9
          (try dsimp only)
          refine hK.out _ _ ?q64_12S13 (fun hHeld1 => ?_)
          case q64_12S13 => ((first | go_keep | ((try dsimp only); exact ⟨by assumption, by assumption, by assumption, by assumption, by assumption⟩)))
          clear hK K hHeld0
          (try simp only [List.getElem_toArray, List.getElem_cons_succ, List.getElem_cons_zero, Act.put, List.setIfInBounds_toArray, List.set_cons_zero, List.set_cons_succ])
          refine anyB_take (i := 11) (oi := _) (v := ?q64_12v14) rfl (by kernel_rfl) (by kernel_rfl) (by kernel_rfl) (by kernel_rfl) (fun _ _ _ h => h) (Or.inl ⟨by rfl, ?q64_12h14⟩) (by assumption) ?q64_12r14
          case q64_12h14 => (intro w hSw; (try dsimp only at hSw); go_simp; try with_reducible rfl)
          (try simp only [List.getElem_toArray, List.getElem_cons_succ, List.getElem_cons_zero, Act.put, List.setIfInBounds_toArray, List.set_cons_zero, List.set_cons_succ])
          refine anyB_step (i := 14) (o := _) (by kernel_rfl) (by rfl) (by (simp only [List.getElem?_toArray, List.getElem?_cons_succ, List.getElem?_cons_zero] <;> rfl)) (fun K hK => ?_)
          go_simp; go_at_call 122; refine (bytes_clone _ Hv9.out).mono ?_; rintro r w10 ⟨x10, rfl, hx10, hb10⟩; obtain ⟨V10, k10, m10, rfl⟩ := hb10.form0; have HX10 := Lib.hid hx10; have Hb10 := Lib.hid hb10; have Hb9b := Lib.hid (Hb9.out.ext hx10); have HO10 := Lib.hid (HO9.out.ext hx10); have HG10 := Lib.hid (hx10.blk HG9.out (fun f => f)); have HZ10 := Lib.hid (hx10.blk HZ9.out (fun f => f)); obtain ⟨s0, sf⟩ := cells1 HG10.out; obtain ⟨t0, t1, t2, t3, -⟩ := cells4 HZ10.out; have hz10 := hx10.size; clear hx10 hb10
          (try dsimp only)
          refine hK.out _ _ ?q64_12S15 (fun hHeld2 => ?_)
          case q64_12S15 => ((first | go_keep | ((try dsimp only); exact ⟨by assumption, by assumption, by assumption, by assumption, by assumption⟩)))
          clear hK K hHeld1
          (try simp only [List.getElem_toArray, List.getElem_cons_succ, List.getElem_cons_zero, Act.put, List.setIfInBounds_toArray, List.set_cons_zero, List.set_cons_succ])
          refine anyB_take (i := 15) (oi := _) (v := ?q64_12v16) rfl (by kernel_rfl) (by kernel_rfl) (by kernel_rfl) (by kernel_rfl) (fun _ _ _ h => h) (Or.inl ⟨by rfl, ?q64_12h16⟩) (by assumption) ?q64_12r16
          case q64_12h16 => (intro w hSw; (try dsimp only at hSw); go_simp; try with_reducible rfl)
          (try simp only [List.getElem_toArray, List.getElem_cons_succ, List.getElem_cons_zero, Act.put, List.setIfInBounds_toArray, List.set_cons_zero, List.set_cons_succ])
          refine anyB_step (i := 16) (o := _) (by kernel_rfl) (by rfl) (by (simp only [List.getElem?_toArray, List.getElem?_cons_succ, List.getElem?_cons_zero] <;> rfl)) (fun K hK => ?_)
          go_simp
          refine hK.out _ _ ?q64_12S17 (fun hHeld3 => ?_)
          case q64_12S17 => ((first | go_keep | ((try dsimp only); exact ⟨by assumption, by assumption, by assumption, by assumption, by assumption⟩)))
          clear hK K hHeld2
          (try simp only [List.getElem_toArray, List.getElem_cons_succ, List.getElem_cons_zero, Act.put, List.setIfInBounds_toArray, List.set_cons_zero, List.set_cons_succ])
          refine anyB_step (i := 17) (o := _) (by kernel_rfl) (by rfl) (by (simp only [List.getElem?_toArray, List.getElem?_cons_succ, List.getElem?_cons_zero] <;> rfl)) (fun K hK => ?_)
          refine step_append_one (by rfl) (.tmp 39) (.tmp 55) 43 (by rfl) fits32 (HO10.out.ext (Ext.alloc1 _ _)) (by rfl) (by (try simp only [World.size_alloc]); omega) (blk_new _ _) (by rfl) e ⟨_, _, rfl, (Hb9b.out.alloc _).mono (fun b hb _ => ⟨by simp only [World.size_drew, World.size_alloc] at hb; omega, fun e => by have := (Hlt8.out _ e).2; simp only [World.size_drew, World.size_alloc] at hb; omega⟩) (.inl (by decide)), (Hb10.out.alloc _).mono (fun b hb _ => ⟨by omega, fun e => by have := (Hlt8.out _ e).2; omega⟩) (.inl (by decide))⟩ (by omega) (by decide) ?_; intro v11 w11 g1 g2 g3; obtain ⟨A11, k11, m11, rfl⟩ := g1.form0; have G1 := Lib.hid g1; have G2 := Lib.hid g2; have G3 := Lib.hid g3; have HG11 := Lib.hid (g2.blk (blk_alloc HG10.out _) (fun e => by have := (Hlt8.out _ e).1; omega)); have HZ11 := Lib.hid (g2.blk (blk_alloc HZ10.out _) (fun e => by have := (Hlt8.out _ e).2; omega)); obtain ⟨a0, af⟩ := cells1 HG11.out; obtain ⟨b0, b1', b2, b3, -⟩ := cells4 HZ11.out; clear g1 g2 g3
          refine hK.out _ _ ?q64_12S18 (fun hHeld4 => ?_)
          case q64_12S18 => ((first | go_keep | ((try dsimp only); exact ⟨by assumption, by assumption, by assumption, by assumption, by assumption⟩)))
          clear hK K hHeld3
          (try simp only [Act.put, List.setIfInBounds_toArray, List.set_cons_zero, List.set_cons_succ])
          refine anyB_last (i := 18) (o := _) (by kernel_rfl) (by rfl) (by (simp only [List.getElem?_toArray, List.getElem?_cons_succ, List.getElem?_cons_zero] <;> rfl)) (fun K hK => ?_)
          go_simp
          refine hK.out _ _ ?_
          clear hK K
          (try simp only [List.getElem_toArray, List.getElem_cons_succ, List.getElem_cons_zero, Act.put, List.setIfInBounds_toArray, List.set_cons_zero, List.set_cons_succ])
          refine anyB_done (by kernel_rfl) ?_ _
          gi_wp2
          go_roundw
          case rel =>
            have hos : Out (fun b => b = wp.heap.size) w11 (w11.setCell ⟨wp.heap.size, 0, none⟩ (.slice A11 k11 m11)) := (Out.refl (fun b => b = wp.heap.size) w11).setCell (p := ⟨wp.heap.size, 0, none⟩) (fun _ => rfl) _
            have hE : Ext wo w10 := (X7.out.drew.ext HX9.out).ext HX10.out
            have hfin := G1.out.frame hos (fun b _ hb _ e => by omega) (fun b _ hb _ e => by omega)
            refine ⟨i + 1, .slice A11 k11 m11, by omega, by go_num, ((((Ho8.out.ext hE).alloc _).then G2.out (fun b hb e => by have h1 := (Hlt8.out b e).1; have h2 := Hv8.out b e; omega))).then hos (fun b hb e => .inl e), blk_set1 HG11.out _, by rw [Htk.out, ← List.append_assoc]; exact hfin, fun b hb => ?_⟩
            have h9 := hE.size
            rcases G3.out with h | h
            · exact Hv8.out b (h ▸ hb)
            · rw [h] at hb; injection hb with hb; rw [World.size_alloc] at hb; exact .inr (by omega)
          case measure => simp [intOf] <;> omega
        · obtain rfl : i = KG.length := by omega
          rw [List.take_length] at Hown8
          gi_wp2
          refine ⟨(HX6.out.out _).trans (Ho8.out.mono fun b _ h => by omega), (HW2.out.ext HX6.out).then Ho8.out (fun b hb e => by rw [hD] at hb; omega), _, HG8.out, ?_, ?_⟩
          · rw [Hsn.out]
            exact Hown8.out
          · rw [Hsn.out, List.length_append, List.length_append]
            simp only [List.length_singleton]
            omega
    | true =>
      gi_wp2_with (first
        | (refine ⟨trivial, ?_⟩; gi_at_call 120; refine (CallsIn.inRound _ (callsIn_wide.2 HN.out)).mono ?_; rintro r w5 ⟨v5, rfl, hX5, hk5⟩; obtain ⟨A5, n5, c5', rfl⟩ := hk5.form0; have d6 := hX5.cell c6 (fun f => f); have HX5 := Lib.hid hX5; have HB := Lib.hid (gl_bare w5 _ hk5 (fun a ha b hb => Hgu.out a (List.mem_filter.1 ha).1 b (List.mem_filter.1 hb).1) (Nat.le_trans (List.length_filter_le _ _) (by omega))); clear c6 c7 c10 hX5 hk5)
        | (refine ⟨trivial, ?_⟩; gi_at_call 121; refine (CallsIn.inRound _ (callsIn_wide.2 HB.out)).mono ?_; rintro r w6 ⟨v6, rfl, rfl, hk6⟩; obtain ⟨A6, n6, c6', rfl⟩ := hk6.form0))
      have hX6 := HX5.out
      have hkl := keepG_len L qs2 true g
      obtain ⟨KG, hkg⟩ : ∃ KG, keepG L qs2 true g = KG := ⟨_, rfl⟩
      change Sl entC _ _ _ (keepG L qs2 true g) at hk6
      rw [hkg] at hk6 hkl Hsn
      have Hkg := Lib.hid hkg
      clear hkg
      obtain ⟨A13, c13, hk6f, -⟩ := hk6.form
      injection hk6f with hf1 hf2 hf3
      subst hf2
      clear hf1 hf3
      have Hk6 := Lib.hid hk6
      have HX6 := Lib.hid hX6
      have HO6 := Lib.hid (HO2.out.ext hX6)
      have HG6 := Lib.hid (hX6.blk HG2.out (fun f => f))
      have hz6 := hX6.size
      have hKl : KG.length ≤ 1000 := by omega
      have Hlt6 := Lib.hid HO2.out.lt
      clear hk6 hX6 hkl
      gi_wp2
      gi_loopw [35] (fun s35 wr => ∃ (i : Nat) (v : Value), i ≤ KG.length ∧ s35 = .int .i64 i ∧ Out (fun b => b = wp.heap.size ∨ wp.heap.size + 4 ≤ b ∧ b < W2.heap.size) w5 wr ∧ wr.heap[wp.heap.size]? = some (.cells #[v] 43) ∧ Own entC 32 wr (wp.heap.size + 4) (fun b => wp.heap.size + 4 ≤ b) v (out ++ KG.take i) ∧ (∀ b, v.ownBlock = some b → b < W2.heap.size ∨ w5.heap.size ≤ b)) (fun s35 _ => KG.length - (intOf s35).toNat)
      case atStart => exact ⟨0, _, Nat.zero_le _, rfl, Out.refl _ _, HG6.out, by rw [List.take_zero, List.append_nil]; exact HO6.out, fun b hb => .inl (Hlt6.out b hb).2⟩
      case round =>
        obtain ⟨wo, rfl⟩ : ∃ x : World, x = wr := ⟨_, rfl⟩
        obtain ⟨i, v8, hi, rfl, ho8, hG8, hown8, hv8⟩ := hrel
        obtain ⟨A8, n8, c8, rfl⟩ := hown8.form0
        have Ho8 := Lib.hid ho8
        have HG8 := Lib.hid hG8
        have Hown8 := Lib.hid hown8
        have Hv8 := Lib.hid hv8
        have Hlt8 := Lib.hid hown8.lt
        have hz8 := ho8.size
        clear ho8 hG8 hown8 hv8
        by_cases hlt : i < KG.length
        · have hk8 := Hk6.out.out Ho8.out (fun b hb hf e => by
            rcases hf with hf | hf
            · have := hF b hf
              rcases e with e | e <;> omega
            · rcases e with e | e <;> omega)
          obtain ⟨b1, o1, u1, v1', rfl, -, e0, e1, e2, e3, hu, hv⟩ := hk8.ent i hlt
          obtain ⟨U1, N1, n1, rfl⟩ := hu.form0
          obtain ⟨V1, M1, m1, rfl⟩ := hv.form0
          have Htk := Lib.hid (List.take_succ_eq_append_getElem hlt)
          have hot : (out ++ KG.take i).length ≤ 2000000 := by rw [List.length_append, List.length_take]; omega
          generalize KG[i] = e at *
          have x7 := Ext.alloc1 wo (.cells #[.slice U1 N1 n1, u64V e.key.seq, byteV e.key.kind, .slice V1 M1 m1] 32)
          have hz7 := blk_new wo (.cells #[.slice U1 N1 n1, u64V e.key.seq, byteV e.key.kind, .slice V1 M1 m1] 32)
          obtain ⟨z0, z1, z2, z3, -⟩ := cells4 hz7
          have HZ7 := Lib.hid hz7
          have HG7 := Lib.hid (x7.blk HG8.out (fun f => f))
          obtain ⟨k0, kf⟩ := cells1 HG7.out
          have Hu7 := Lib.hid ((hu.ext x7).drew)
          have Hv7 := Lib.hid ((hv.ext x7).drew)
          have HO7 := Lib.hid ((Hown8.out.ext x7).ext (Out.refl _ _).drew)
          have X7 := Lib.hid x7
          have hi0 : (0 : Int) ≤ (i : Int) := by omega
          have hi1 : (i : Int) < (KG.length : Int) := by omega
          clear hu hv hz7 x7 hk8
          gi_wp2
          refine region_BI 18 (fun w' => w'.cell? ⟨wp.heap.size, 0, none⟩ = some (.slice A8 n8 c8) ∧ w'.cell? ⟨wo.heap.size, 0, none⟩ = some (.slice U1 N1 n1) ∧ w'.cell? ⟨wo.heap.size, 1, none⟩ = some (u64V e.key.seq) ∧ w'.cell? ⟨wo.heap.size, 2, none⟩ = some (byteV e.key.kind) ∧ w'.cell? ⟨wo.heap.size, 3, none⟩ = some (.slice V1 M1 m1)) (by kernel_rfl) (by kernel_rfl) (by rintro ⟨aO, wO, hO⟩; exact hO) ?q64_12b1S (fun hHeld0 => ?_)
          case q64_12b1S => ((first | go_keep | ((try dsimp only); exact ⟨by assumption, by assumption, by assumption, by assumption, by assumption⟩)))
          refine anyB_take (i := 0) (oi := _) (v := ?q64_12b1v1) rfl (by kernel_rfl) (by kernel_rfl) (by kernel_rfl) (by kernel_rfl) (fun _ _ _ h => h) (Or.inl ⟨by rfl, ?q64_12b1h1⟩) (by assumption) ?q64_12b1r1
          case q64_12b1h1 => (intro w hSw; (try dsimp only at hSw); go_simp; try with_reducible rfl)
          (try simp only [List.getElem_toArray, List.getElem_cons_zero, Act.put, List.setIfInBounds_toArray, List.set_cons_zero, List.set_cons_succ])
          refine anyB_take (i := 1) (oi := _) (v := ?q64_12b1v2) rfl (by kernel_rfl) (by kernel_rfl) (by kernel_rfl) (by kernel_rfl) (fun _ _ _ h => h) (Or.inl ⟨by rfl, ?q64_12b1h2⟩) (by assumption) ?q64_12b1r2
          case q64_12b1h2 => (intro w hSw; (try dsimp only at hSw); go_simp; try with_reducible rfl)
          (try simp only [List.getElem_toArray, List.getElem_cons_succ, List.getElem_cons_zero, Act.put, List.setIfInBounds_toArray, List.set_cons_zero, List.set_cons_succ])
          refine anyB_take (i := 2) (oi := _) (v := ?q64_12b1v3) rfl (by kernel_rfl) (by kernel_rfl) (by kernel_rfl) (by kernel_rfl) (fun _ _ _ h => h) (Or.inl ⟨by rfl, ?q64_12b1h3⟩) (by assumption) ?q64_12b1r3
          case q64_12b1h3 => (intro w hSw; (try dsimp only at hSw); go_simp; try with_reducible rfl)
          (try simp only [List.getElem_toArray, List.getElem_cons_succ, List.getElem_cons_zero, Act.put, List.setIfInBounds_toArray, List.set_cons_zero, List.set_cons_succ])
          refine anyB_take (i := 3) (oi := _) (v := ?q64_12b1v4) rfl (by kernel_rfl) (by kernel_rfl) (by kernel_rfl) (by kernel_rfl) (fun _ _ _ h => h) (Or.inl ⟨by rfl, ?q64_12b1h4⟩) (by assumption) ?q64_12b1r4
          case q64_12b1h4 => (intro w hSw; (try dsimp only at hSw); go_simp; try with_reducible rfl)
          (try simp only [List.getElem_toArray, List.getElem_cons_succ, List.getElem_cons_zero, Act.put, List.setIfInBounds_toArray, List.set_cons_zero, List.set_cons_succ])
          refine anyB_take (i := 5) (oi := _) (v := ?q64_12b1v5) rfl (by kernel_rfl) (by kernel_rfl) (by kernel_rfl) (by kernel_rfl) (fun _ _ _ h => h) (Or.inl ⟨by rfl, ?q64_12b1h5⟩) (by assumption) ?q64_12b1r5
          case q64_12b1h5 => (intro w hSw; (try dsimp only at hSw); go_simp; try with_reducible rfl)
          (try simp only [List.getElem_toArray, List.getElem_cons_succ, List.getElem_cons_zero, Act.put, List.setIfInBounds_toArray, List.set_cons_zero, List.set_cons_succ])
          refine anyB_take (i := 6) (oi := _) (v := ?q64_12b1v6) rfl (by kernel_rfl) (by kernel_rfl) (by kernel_rfl) (by kernel_rfl) (fun _ _ _ h => h) (Or.inl ⟨by rfl, ?q64_12b1h6⟩) (by assumption) ?q64_12b1r6
          case q64_12b1h6 => (intro w hSw; (try dsimp only at hSw); go_simp; try with_reducible rfl)
          (try simp only [List.getElem_toArray, List.getElem_cons_succ, List.getElem_cons_zero, Act.put, List.setIfInBounds_toArray, List.set_cons_zero, List.set_cons_succ])
          refine anyB_take (i := 7) (oi := _) (v := ?q64_12b1v7) rfl (by kernel_rfl) (by kernel_rfl) (by kernel_rfl) (by kernel_rfl) (fun _ _ _ h => h) (Or.inl ⟨by rfl, ?q64_12b1h7⟩) (by assumption) ?q64_12b1r7
          case q64_12b1h7 => (intro w hSw; (try dsimp only at hSw); go_simp; try with_reducible rfl)
          (try simp only [List.getElem_toArray, List.getElem_cons_succ, List.getElem_cons_zero, Act.put, List.setIfInBounds_toArray, List.set_cons_zero, List.set_cons_succ])
          refine anyB_take (i := 8) (oi := _) (v := ?q64_12b1v8) rfl (by kernel_rfl) (by kernel_rfl) (by kernel_rfl) (by kernel_rfl) (fun _ _ _ h => h) (Or.inl ⟨by rfl, ?q64_12b1h8⟩) (by assumption) ?q64_12b1r8
          case q64_12b1h8 => (intro w hSw; (try dsimp only at hSw); go_simp; try with_reducible rfl)
          (try simp only [List.getElem_toArray, List.getElem_cons_succ, List.getElem_cons_zero, Act.put, List.setIfInBounds_toArray, List.set_cons_zero, List.set_cons_succ])
          refine anyB_take (i := 9) (oi := _) (v := ?q64_12b1v9) rfl (by kernel_rfl) (by kernel_rfl) (by kernel_rfl) (by kernel_rfl) (fun _ _ _ h => h) (Or.inl ⟨by rfl, ?q64_12b1h9⟩) (by assumption) ?q64_12b1r9
          case q64_12b1h9 => (intro w hSw; (try dsimp only at hSw); go_simp; try with_reducible rfl)
          (try simp only [List.getElem_toArray, List.getElem_cons_succ, List.getElem_cons_zero, Act.put, List.setIfInBounds_toArray, List.set_cons_zero, List.set_cons_succ])
          refine anyB_take (i := 10) (oi := _) (v := ?q64_12b1v10) rfl (by kernel_rfl) (by kernel_rfl) (by kernel_rfl) (by kernel_rfl) (fun _ _ _ h => h) (Or.inl ⟨by rfl, ?q64_12b1h10⟩) (by assumption) ?q64_12b1r10
          case q64_12b1h10 => (intro w hSw; (try dsimp only at hSw); go_simp; try with_reducible rfl)
          (try simp only [List.getElem_toArray, List.getElem_cons_succ, List.getElem_cons_zero, Act.put, List.setIfInBounds_toArray, List.set_cons_zero, List.set_cons_succ])
          refine anyB_take (i := 12) (oi := _) (v := ?q64_12b1v11) rfl (by kernel_rfl) (by kernel_rfl) (by kernel_rfl) (by kernel_rfl) (fun _ _ _ h => h) (Or.inl ⟨by rfl, ?q64_12b1h11⟩) (by assumption) ?q64_12b1r11
          case q64_12b1h11 => (intro w hSw; (try dsimp only at hSw); go_simp; try with_reducible rfl)
          (try simp only [List.getElem_toArray, List.getElem_cons_succ, List.getElem_cons_zero, Act.put, List.setIfInBounds_toArray, List.set_cons_zero, List.set_cons_succ])
          refine anyB_take (i := 13) (oi := _) (v := ?q64_12b1v12) rfl (by kernel_rfl) (by kernel_rfl) (by kernel_rfl) (by kernel_rfl) (fun _ _ _ h => h) (Or.inl ⟨by rfl, ?q64_12b1h12⟩) (by assumption) ?q64_12b1r12
          case q64_12b1h12 => (intro w hSw; (try dsimp only at hSw); go_simp; try with_reducible rfl)
          (try simp only [List.getElem_toArray, List.getElem_cons_succ, List.getElem_cons_zero, Act.put, List.setIfInBounds_toArray, List.set_cons_zero, List.set_cons_succ])
          refine anyB_step (i := 4) (o := _) (by kernel_rfl) (by rfl) (by (simp only [List.getElem?_toArray, List.getElem?_cons_succ, List.getElem?_cons_zero] <;> rfl)) (fun K hK => ?_)
          go_simp; go_at_call 122; refine (bytes_clone _ Hu7.out).mono ?_; rintro r w9 ⟨x9, rfl, hx9, hb9⟩; obtain ⟨U9, k9, m9, rfl⟩ := hb9.form0; have HX9 := Lib.hid hx9; have Hb9 := Lib.hid hb9; have HO9 := Lib.hid (HO7.out.ext hx9); have Hv9 := Lib.hid (Hv7.out.ext hx9); have HG9 := Lib.hid (hx9.blk (show (World.drew _).heap[_]? = _ from HG7.out) (fun f => f)); have HZ9 := Lib.hid (hx9.blk (show (World.drew _).heap[_]? = _ from HZ7.out) (fun f => f)); obtain ⟨p0, pf⟩ := cells1 HG9.out; obtain ⟨r0, r1, r2, r3, -⟩ := cells4 HZ9.out; have hz9 := hx9.size; simp only [World.size_drew, World.size_alloc] at hz9; clear hx9 hb9
          (try dsimp only)
          refine hK.out _ _ ?q64_12b1S13 (fun hHeld1 => ?_)
          case q64_12b1S13 => ((first | go_keep | ((try dsimp only); exact ⟨by assumption, by assumption, by assumption, by assumption, by assumption⟩)))
          clear hK K hHeld0
          (try simp only [List.getElem_toArray, List.getElem_cons_succ, List.getElem_cons_zero, Act.put, List.setIfInBounds_toArray, List.set_cons_zero, List.set_cons_succ])
          refine anyB_take (i := 11) (oi := _) (v := ?q64_12b1v14) rfl (by kernel_rfl) (by kernel_rfl) (by kernel_rfl) (by kernel_rfl) (fun _ _ _ h => h) (Or.inl ⟨by rfl, ?q64_12b1h14⟩) (by assumption) ?q64_12b1r14
          case q64_12b1h14 => (intro w hSw; (try dsimp only at hSw); go_simp; try with_reducible rfl)
          (try simp only [List.getElem_toArray, List.getElem_cons_succ, List.getElem_cons_zero, Act.put, List.setIfInBounds_toArray, List.set_cons_zero, List.set_cons_succ])
          refine anyB_step (i := 14) (o := _) (by kernel_rfl) (by rfl) (by (simp only [List.getElem?_toArray, List.getElem?_cons_succ, List.getElem?_cons_zero] <;> rfl)) (fun K hK => ?_)
          go_simp; go_at_call 122; refine (bytes_clone _ Hv9.out).mono ?_; rintro r w10 ⟨x10, rfl, hx10, hb10⟩; obtain ⟨V10, k10, m10, rfl⟩ := hb10.form0; have HX10 := Lib.hid hx10; have Hb10 := Lib.hid hb10; have Hb9b := Lib.hid (Hb9.out.ext hx10); have HO10 := Lib.hid (HO9.out.ext hx10); have HG10 := Lib.hid (hx10.blk HG9.out (fun f => f)); have HZ10 := Lib.hid (hx10.blk HZ9.out (fun f => f)); obtain ⟨s0, sf⟩ := cells1 HG10.out; obtain ⟨t0, t1, t2, t3, -⟩ := cells4 HZ10.out; have hz10 := hx10.size; clear hx10 hb10
          (try dsimp only)
          refine hK.out _ _ ?q64_12b1S15 (fun hHeld2 => ?_)
          case q64_12b1S15 => ((first | go_keep | ((try dsimp only); exact ⟨by assumption, by assumption, by assumption, by assumption, by assumption⟩)))
          clear hK K hHeld1
          (try simp only [List.getElem_toArray, List.getElem_cons_succ, List.getElem_cons_zero, Act.put, List.setIfInBounds_toArray, List.set_cons_zero, List.set_cons_succ])
          refine anyB_take (i := 15) (oi := _) (v := ?q64_12b1v16) rfl (by kernel_rfl) (by kernel_rfl) (by kernel_rfl) (by kernel_rfl) (fun _ _ _ h => h) (Or.inl ⟨by rfl, ?q64_12b1h16⟩) (by assumption) ?q64_12b1r16
          case q64_12b1h16 => (intro w hSw; (try dsimp only at hSw); go_simp; try with_reducible rfl)
          (try simp only [List.getElem_toArray, List.getElem_cons_succ, List.getElem_cons_zero, Act.put, List.setIfInBounds_toArray, List.set_cons_zero, List.set_cons_succ])
          refine anyB_step (i := 16) (o := _) (by kernel_rfl) (by rfl) (by (simp only [List.getElem?_toArray, List.getElem?_cons_succ, List.getElem?_cons_zero] <;> rfl)) (fun K hK => ?_)
          go_simp
          refine hK.out _ _ ?q64_12b1S17 (fun hHeld3 => ?_)
          case q64_12b1S17 => ((first | go_keep | ((try dsimp only); exact ⟨by assumption, by assumption, by assumption, by assumption, by assumption⟩)))
          clear hK K hHeld2
          (try simp only [List.getElem_toArray, List.getElem_cons_succ, List.getElem_cons_zero, Act.put, List.setIfInBounds_toArray, List.set_cons_zero, List.set_cons_succ])
          refine anyB_step (i := 17) (o := _) (by kernel_rfl) (by rfl) (by (simp only [List.getElem?_toArray, List.getElem?_cons_succ, List.getElem?_cons_zero] <;> rfl)) (fun K hK => ?_)
          refine step_append_one (by rfl) (.tmp 39) (.tmp 55) 43 (by rfl) fits32 (HO10.out.ext (Ext.alloc1 _ _)) (by rfl) (by (try simp only [World.size_alloc]); omega) (blk_new _ _) (by rfl) e ⟨_, _, rfl, (Hb9b.out.alloc _).mono (fun b hb _ => ⟨by simp only [World.size_drew, World.size_alloc] at hb; omega, fun e => by have := (Hlt8.out _ e).2; simp only [World.size_drew, World.size_alloc] at hb; omega⟩) (.inl (by decide)), (Hb10.out.alloc _).mono (fun b hb _ => ⟨by omega, fun e => by have := (Hlt8.out _ e).2; omega⟩) (.inl (by decide))⟩ (by omega) (by decide) ?_; intro v11 w11 g1 g2 g3; obtain ⟨A11, k11, m11, rfl⟩ := g1.form0; have G1 := Lib.hid g1; have G2 := Lib.hid g2; have G3 := Lib.hid g3; have HG11 := Lib.hid (g2.blk (blk_alloc HG10.out _) (fun e => by have := (Hlt8.out _ e).1; omega)); have HZ11 := Lib.hid (g2.blk (blk_alloc HZ10.out _) (fun e => by have := (Hlt8.out _ e).2; omega)); obtain ⟨a0, af⟩ := cells1 HG11.out; obtain ⟨b0, b1', b2, b3, -⟩ := cells4 HZ11.out; clear g1 g2 g3
          refine hK.out _ _ ?q64_12b1S18 (fun hHeld4 => ?_)
          case q64_12b1S18 => ((first | go_keep | ((try dsimp only); exact ⟨by assumption, by assumption, by assumption, by assumption, by assumption⟩)))
          clear hK K hHeld3
          (try simp only [Act.put, List.setIfInBounds_toArray, List.set_cons_zero, List.set_cons_succ])
          refine anyB_last (i := 18) (o := _) (by kernel_rfl) (by rfl) (by (simp only [List.getElem?_toArray, List.getElem?_cons_succ, List.getElem?_cons_zero] <;> rfl)) (fun K hK => ?_)
          go_simp
          refine hK.out _ _ ?_
          clear hK K
          (try simp only [List.getElem_toArray, List.getElem_cons_succ, List.getElem_cons_zero, Act.put, List.setIfInBounds_toArray, List.set_cons_zero, List.set_cons_succ])
          refine anyB_done (by kernel_rfl) ?_ _
          gi_wp2
          go_roundw
          case rel =>
            have hos : Out (fun b => b = wp.heap.size) w11 (w11.setCell ⟨wp.heap.size, 0, none⟩ (.slice A11 k11 m11)) := (Out.refl (fun b => b = wp.heap.size) w11).setCell (p := ⟨wp.heap.size, 0, none⟩) (fun _ => rfl) _
            have hE : Ext wo w10 := (X7.out.drew.ext HX9.out).ext HX10.out
            have hfin := G1.out.frame hos (fun b _ hb _ e => by omega) (fun b _ hb _ e => by omega)
            refine ⟨i + 1, .slice A11 k11 m11, by omega, by go_num, ((((Ho8.out.ext hE).alloc _).then G2.out (fun b hb e => by have h1 := (Hlt8.out b e).1; have h2 := Hv8.out b e; omega))).then hos (fun b hb e => .inl e), blk_set1 HG11.out _, by rw [Htk.out, ← List.append_assoc]; exact hfin, fun b hb => ?_⟩
            have h9 := hE.size
            rcases G3.out with h | h
            · exact Hv8.out b (h ▸ hb)
            · rw [h] at hb; injection hb with hb; rw [World.size_alloc] at hb; exact .inr (by omega)
          case measure => simp [intOf] <;> omega
        · obtain rfl : i = KG.length := by omega
          rw [List.take_length] at Hown8
          gi_wp2
          refine ⟨(HX6.out.out _).trans (Ho8.out.mono fun b _ h => by omega), (HW2.out.ext HX6.out).then Ho8.out (fun b hb e => by rw [hD] at hb; omega), _, HG8.out, ?_, ?_⟩
          · rw [Hsn.out]
            exact Hown8.out
          · rw [Hsn.out, List.length_append, List.length_append]
            simp only [List.length_singleton]
            omega
  case done =>
    rintro xs W hS ⟨hout, v1, hG, hown, -⟩ hKW hdef
    have hL1 := LensK.out HL0.out hout (fun b hb e => by omega)
    have c6 := hL1.c6
    have c10 := hL1.c10
    have HA := Lib.hid (hL1.all hl2)
    have hk := keep_groups hS Hsort.out L qs2 bottom
    rw [hk] at hown
    have hkl : (keepE l L bottom (qs2.map (·.toNat))).length ≤ 1000 := Nat.le_trans keepE_sub.length_le hl1
    have hsl := hown.sl (G := fun b => wp.heap.size + 4 ≤ b ∧ b < W.heap.size) (by decide) (by show _ ≤ 140737488355328; omega) (fun b hb hl => ⟨by omega, hl⟩) (fun b hb hl => ⟨by omega, hl⟩)
    rw [Hqs2.out] at hsl
    obtain ⟨K, hK⟩ : ∃ K, keepE l L bottom ((qs ++ [maxSeq]).map (·.toNat)) = K := ⟨_, rfl⟩
    rw [hK] at hsl
    have HK := Lib.hid hK
    obtain ⟨A3, n3, c3, rfl⟩ := hsl.form0
    have hb0 := (cells1 hG).1
    have hbl := blk_lt hG
    have hdl := blk_lt hdef
    have HXW := Lib.hid (HX9.out.then hout (fun b hb e => by omega))
    have HG := Lib.hid hG
    have Hsl := Lib.hid hsl
    have Hdef := Lib.hid hdef
    clear hout hG hown hdef hL1 hKW hS hk hsl hK hkl
    cases bottom with
    | false =>
      go_wp2_with (go_at_call 123; refine HA.out.mono ?_; rintro r w7 ⟨v7, rfl, hx7, hown7⟩; obtain ⟨A7, n7, c7, rfl⟩ := hown7.form0; have d6 := hx7.cell c6 (fun f => f); have d11 := hx7.cell hb0 (fun f => f); have Hx7 := Lib.hid hx7; have Hown7 := Lib.hid hown7; have hz7 := hx7.size; clear c6 c10 hb0 hx7 hown7)
      refine ⟨by simp, .inl ⟨_, _, rfl, run_takeDeferred (Hx7.out.blk Hdef.out (fun f => f)), ?_⟩⟩
      have hput := out_putObj w7 (wp.heap.size + 2) (.deferred none)
      refine ⟨.tuple #[.slice A3 n3 c3, .slice A7 n7 c7], by simp [results, Try.results64, go_sem], _, _, rfl, ?_, ?_, ?_⟩
      · exact (HXW.out.ext Hx7.out).then hput (fun b hb e => by omega)
      · rw [HK.out]
        exact ((Hsl.out.ext Hx7.out).out hput (fun b _ hb e => by omega)).mono (fun b hb _ => by omega) (.inl (by decide))
      · show Sl spanC _ _ _ L
        exact ((Hown7.out.sl (G := fun b => W.heap.size ≤ b) (by decide) (by show _ ≤ 140737488355328; omega) (fun b hb _ => hb) (fun b hb _ => hb)).out hput (fun b _ hb e => by omega)).mono (fun b hb _ => by have := HXW.out.size; omega) (.inl (by decide))
    | true =>
      go_wp2_with (first
        | (go_at_call 123; go_loud (refine HA.out.mono ?_; rintro r w7 ⟨v7, rfl, hx7, hown7⟩; have d6 := hx7.cell c6 (fun f => f); have d11 := hx7.cell hb0 (fun f => f); have Hx7 := Lib.hid hx7; have hz7 := hx7.size; have hsl7 := Lib.hid (Hsl.out.ext hx7); have HDl := Lib.hid (delete_spans w7 125 (enters_of Try.func125 (by kernel_rfl) rfl) #[.pointer (some ⟨wp.heap.size, 0, none⟩)] L hown7 hl2 (fun s => !needsE K s) (fun w1 u v e _ hx1 hu hv => keep125 w1 K e (hx1.cell d11 (fun h => by dsimp only at h; omega)) (hsl7.out.out hx1 (fun b _ hb e => by omega)) hu hv)); obtain ⟨A7, n7, c7, rfl⟩ := hown7.form0; clear c6 c10 hb0 hx7 hown7))
        | (go_at_call 124; refine HDl.out.mono ?_; rintro r w8 ⟨v8, rfl, hx8, hs8⟩; obtain ⟨A8, n8, c8, rfl⟩ := hs8.form0; have e11 := hx8.cell d11 (fun h => by dsimp only at h; omega); have Hx8 := Lib.hid hx8; have Hs8 := Lib.hid hs8; have hz8 := hx8.size; clear hx8 hs8))
      refine ⟨by simp, .inl ⟨_, _, rfl, run_takeDeferred (Hx8.out.blk (Hx7.out.blk Hdef.out (fun f => f)) (fun h => by omega)), ?_⟩⟩
      have hput := out_putObj w8 (wp.heap.size + 2) (.deferred none)
      have hWz := HXW.out.size
      refine ⟨.tuple #[.slice A3 n3 c3, .slice A8 n8 c8], by simp [results, Try.results64, go_sem], _, _, rfl, ?_, ?_, ?_⟩
      · exact ((HXW.out.ext Hx7.out).then Hx8.out (fun b hb e => by omega)).then hput (fun b hb e => by omega)
      · rw [HK.out]
        exact (((Hsl.out.ext Hx7.out).out Hx8.out (fun b _ hb e => by omega)).out hput (fun b _ hb e => by omega)).mono (fun b hb _ => by omega) (.inl (by decide))
      · rw [HK.out]
        have h1 : leftE K L true = L.filter fun s => !(!needsE K s) := by
          show L.filter (needsE K) = _
          exact List.filter_congr fun s _ => by simp
        rw [h1]
        exact (Hs8.out.out hput (fun b _ hb e => by omega)).mono (fun b hb _ => by omega) (.inl (by decide))
end Go.Proofs.Yteaanagljmcidaa
namespace Go.Proofs.Yteaanagljmcidaa

def putOf (u v : List UInt8) : OpE := ⟨2, u, v⟩
def seenStep (E : List Ent) (L : List SpanE) (q : Nat) (out : List PairE) (e : Ent) : List PairE :=
  if (findE E L e.key.user q).2 = 1 then applyE out (putOf e.key.user (findE E L e.key.user q).1) else out
/-- The document's map as of a number, over the first ones. -/
def refSeenF (E : List Ent) (L : List SpanE) (q : Nat) (l : List Ent) : List PairE := l.foldl (seenStep E L q) []
def refSeen (E : List Ent) (L : List SpanE) (q : Nat) : List PairE := refSeenF E L q E
theorem refSeenF_succ {E : List Ent} {L : List SpanE} {q : Nat} {l : List Ent} {i : Nat} (hi : i < l.length) : refSeenF E L q (l.take (i + 1)) = seenStep E L q (refSeenF E L q (l.take i)) l[i] := by
  unfold refSeenF
  rw [List.take_succ_eq_append_getElem hi, List.foldl_append]; rfl
theorem seenStep_length (E : List Ent) (L : List SpanE) (q : Nat) (out : List PairE) (e : Ent) : (seenStep E L q out e).length ≤ out.length + 1 := by
  unfold seenStep
  split
  · exact applyE_length _ _
  · omega
theorem refSeenF_length (E : List Ent) (L : List SpanE) (q : Nat) (l : List Ent) : (refSeenF E L q l).length ≤ l.length := by
  unfold refSeenF
  suffices ∀ (l : List Ent) (out : List PairE), (l.foldl (seenStep E L q) out).length ≤ out.length + l.length by simpa using this l []
  intro l
  induction l with
  | nil => intro out; simp
  | cons e l ih =>
    intro out
    have h1 := ih (seenStep E L q out e)
    have h2 := seenStep_length E L q out e
    rw [List.foldl_cons, List.length_cons]
    omega
theorem mem_seenStep {E : List Ent} {L : List SpanE} {q : Nat} {out : List PairE} (hout : ∀ p ∈ out, findE E L p.key q = (p.val, 1)) (e : Ent) (p : PairE) :
    p ∈ seenStep E L q out e ↔ p ∈ out ∨ e.key.user = p.key ∧ findE E L p.key q = (p.val, 1) := by
  unfold seenStep
  generalize hf : findE E L e.key.user q = f
  obtain ⟨v, s⟩ := f
  dsimp only
  by_cases hs : s = 1
  · subst hs
    rw [if_pos rfl, mem_applyE]
    have hc : coversO (putOf e.key.user v) p.key = (e.key.user == p.key) := rfl
    have hk : (putOf e.key.user v).kind.toNat = 2 := rfl
    rw [hc]
    constructor
    · rintro (⟨rfl, -⟩ | ⟨h1, -⟩)
      · exact .inr ⟨rfl, hf⟩
      · exact .inl h1
    · rintro (h1 | ⟨h1, h2⟩)
      · by_cases h3 : e.key.user = p.key
        · have h4 := hout p h1
          rw [← h3, hf] at h4
          injection h4 with h4 _
          refine .inl ⟨?_, hk⟩
          cases p
          simp only at h3 h4
          simp [newP, putOf, h3, h4]
        · exact .inr ⟨h1, by simpa using h3⟩
      · rw [← h1, hf] at h2
        injection h2 with h2 _
        refine .inl ⟨?_, hk⟩
        cases p
        simp only at h1 h2
        simp [newP, putOf, h1, h2]
  · rw [if_neg hs]
    constructor
    · exact .inl
    · rintro (h1 | ⟨h1, h2⟩)
      · exact h1
      · rw [← h1, hf] at h2
        injection h2 with _ h2
        exact absurd h2 hs
theorem mem_refSeenF {E : List Ent} {L : List SpanE} {q : Nat} (l : List Ent) (p : PairE) : p ∈ refSeenF E L q l ↔ (∃ e ∈ l, e.key.user = p.key) ∧ findE E L p.key q = (p.val, 1) := by
  unfold refSeenF
  suffices ∀ (l : List Ent) (out : List PairE), (∀ p ∈ out, findE E L p.key q = (p.val, 1)) → (p ∈ l.foldl (seenStep E L q) out ↔ p ∈ out ∨ (∃ e ∈ l, e.key.user = p.key) ∧ findE E L p.key q = (p.val, 1)) by
    have h := this l [] (fun _ h => by cases h)
    simpa using h
  intro l
  induction l with
  | nil => intro out _; simp
  | cons e l ih =>
    intro out hout
    rw [List.foldl_cons, ih (seenStep E L q out e) (fun y hy => ((mem_seenStep hout e y).1 hy).elim (hout y) (fun h => h.2)), mem_seenStep hout]
    constructor
    · rintro ((h | ⟨h, h'⟩) | ⟨⟨y, hy, h⟩, h'⟩)
      · exact .inl h
      · exact .inr ⟨⟨e, List.mem_cons_self, h⟩, h'⟩
      · exact .inr ⟨⟨y, List.mem_cons_of_mem _ hy, h⟩, h'⟩
    · rintro (h | ⟨⟨y, hy, h⟩, h'⟩)
      · exact .inl (.inl h)
      · rcases List.mem_cons.1 hy with rfl | hy
        · exact .inl (.inr ⟨h, h'⟩)
        · exact .inr ⟨⟨y, hy, h⟩, h'⟩

/-! ### pairs by rising keys -/
def SortedP (m : List PairE) : Prop := m.Pairwise fun a b => bcmp a.key b.key < 0
theorem bless_iff {a b : List UInt8} : Op.bytesLess a b = true ↔ bcmp a b < 0 := by
  rw [← bcmp_neg]; simp
theorem bcmp_total (a b : List UInt8) : bcmp a b < 0 ∨ a = b ∨ bcmp b a < 0 := by
  have h := bcmp_swap a b
  by_cases h0 : bcmp a b = 0
  · exact .inr (.inl ((bcmp_zero _ _).1 h0))
  · rcases Int.lt_or_lt_of_ne h0 with h1 | h1
    · exact .inl h1
    · exact .inr (.inr (by omega))
theorem bcmp_irrefl (a : List UInt8) : ¬ bcmp a a < 0 := by rw [(bcmp_zero a a).2 rfl]; omega
theorem sorted_applyE {m : List PairE} (h : SortedP m) (o : OpE) (ho : o.kind.toNat = 2) : SortedP (applyE m o) := by
  have hc : ∀ k, coversO o k = (o.key == k) := fun k => by unfold coversO; rw [if_neg (by omega)]
  suffices ∀ (m : List PairE) (a : List PairE × Bool), SortedP m → SortedP a.1 → (∀ x ∈ a.1, ∀ y ∈ m, bcmp x.key y.key < 0) → (a.2 = false → ∀ x ∈ a.1, bcmp x.key o.key < 0) → (a.2 = true → ∀ y ∈ m, o.key ≠ y.key) →
      SortedP (m.foldl (applyStep o) a).1 ∧ ((m.foldl (applyStep o) a).2 = false → ∀ x ∈ (m.foldl (applyStep o) a).1, bcmp x.key o.key < 0) by
    have h0 := this m ([], decide (o.kind.toNat ≠ 2)) h .nil (fun _ h => by cases h) (fun _ _ h => by cases h) (fun h => by simp [ho] at h)
    unfold applyE
    split
    · exact h0.1
    · rename_i hn
      refine List.pairwise_append.2 ⟨h0.1, List.pairwise_singleton _ _, fun x hx y hy => ?_⟩
      rw [List.mem_singleton.1 hy]
      exact h0.2 (show (applyF o m).2 = false from by simpa using hn) x hx
  intro m
  induction m with
  | nil => intro a _ h2 _ h4 _; exact ⟨h2, h4⟩
  | cons x m ih =>
    rintro ⟨acc, d⟩ h1 h2 h3 h4 h5
    obtain ⟨h1a, h1b⟩ := List.pairwise_cons.1 h1
    simp only at h2 h3 h4 h5
    rw [List.foldl_cons]
    have snoc : ∀ {acc : List PairE}, SortedP acc → (∀ y ∈ acc, bcmp y.key x.key < 0) → SortedP (acc ++ [x]) := fun ha hb => List.pairwise_append.2 ⟨ha, List.pairwise_singleton _ _, fun y hy z hz => by rw [List.mem_singleton.1 hz]; exact hb y hy⟩
    cases d with
    | true =>
      have hx : coversO o x.key = false := by rw [hc]; simpa using h5 rfl x List.mem_cons_self
      have hs : applyStep o (acc, true) x = (acc ++ [x], true) := by unfold applyStep; simp [hx]
      rw [hs]
      refine ih _ h1b (snoc h2 fun y hy => h3 y hy x List.mem_cons_self) (fun y hy z hz => ?_) (fun h => by cases h) (fun _ y hy => h5 rfl y (List.mem_cons_of_mem _ hy))
      rcases List.mem_append.1 hy with hy | hy
      · exact h3 y hy z (List.mem_cons_of_mem _ hz)
      · rw [List.mem_singleton.1 hy]; exact h1a z hz
    | false =>
      rcases bcmp_total o.key x.key with hlt | heq | hgt
      · have hx : coversO o x.key = false := by
          rw [hc, beq_eq_false_iff_ne]
          intro he
          rw [he] at hlt
          exact bcmp_irrefl _ hlt
        have hs : applyStep o (acc, false) x = (acc ++ [newP o] ++ [x], true) := by unfold applyStep; simp [hx, bless_iff.2 hlt]
        rw [hs]
        have hac : SortedP (acc ++ [newP o]) := List.pairwise_append.2 ⟨h2, List.pairwise_singleton _ _, fun y hy z hz => by rw [List.mem_singleton.1 hz]; exact h4 rfl y hy⟩
        have hb : ∀ y ∈ acc ++ [newP o], bcmp y.key x.key < 0 := fun y hy => by
          rcases List.mem_append.1 hy with hy | hy
          · exact h3 y hy x List.mem_cons_self
          · rw [List.mem_singleton.1 hy]; exact hlt
        refine ih _ h1b (snoc hac hb) (fun y hy z hz => ?_) (fun h => by cases h) (fun _ y hy he => ?_)
        · rcases List.mem_append.1 hy with hy | hy
          · exact bcmp_trans _ _ _ (hb y hy) (h1a z hz)
          · rw [List.mem_singleton.1 hy]; exact h1a z hz
        · have := bcmp_trans _ _ _ hlt (h1a y hy)
          rw [he] at this
          exact bcmp_irrefl _ this
      · have hx : coversO o x.key = true := by rw [hc, heq]; simp
        have hl : Op.bytesLess o.key x.key = false := by
          rw [Bool.eq_false_iff]
          intro h
          rw [bless_iff, heq] at h
          exact bcmp_irrefl _ h
        have hs : applyStep o (acc, false) x = (acc, false) := by unfold applyStep; simp [hx, hl]
        rw [hs]
        exact ih _ h1b h2 (fun y hy z hz => h3 y hy z (List.mem_cons_of_mem _ hz)) h4 (fun h => by cases h)
      · have hx : coversO o x.key = false := by
          rw [hc, beq_eq_false_iff_ne]
          intro he
          rw [he] at hgt
          exact bcmp_irrefl _ hgt
        have hl : Op.bytesLess o.key x.key = false := by
          rw [Bool.eq_false_iff]
          intro h
          rw [bless_iff] at h
          exact bcmp_irrefl _ (bcmp_trans _ _ _ hgt h)
        have hs : applyStep o (acc, false) x = (acc ++ [x], false) := by unfold applyStep; simp [hx, hl]
        rw [hs]
        refine ih _ h1b (snoc h2 fun y hy => h3 y hy x List.mem_cons_self) (fun y hy z hz => ?_) (fun _ y hy => ?_) (fun h => by cases h)
        · rcases List.mem_append.1 hy with hy | hy
          · exact h3 y hy z (List.mem_cons_of_mem _ hz)
          · rw [List.mem_singleton.1 hy]; exact h1a z hz
        · rcases List.mem_append.1 hy with hy | hy
          · exact h4 rfl y hy
          · rw [List.mem_singleton.1 hy]; exact hgt
theorem sorted_refSeen (E : List Ent) (L : List SpanE) (q : Nat) : ∀ l, SortedP (refSeenF E L q l) := by
  intro l
  unfold refSeenF
  suffices ∀ (l : List Ent) (out : List PairE), SortedP out → SortedP (l.foldl (seenStep E L q) out) from this l [] .nil
  intro l
  induction l with
  | nil => intro out h; exact h
  | cons e l ih =>
    intro out h
    rw [List.foldl_cons]
    refine ih _ ?_
    unfold seenStep
    split
    · exact sorted_applyE h _ rfl
    · exact h
theorem sortedP_ext : ∀ {a b : List PairE}, SortedP a → SortedP b → (∀ p, p ∈ a ↔ p ∈ b) → a = b
  | [], [], _, _, _ => rfl
  | [], y :: b, _, _, h => absurd ((h y).2 List.mem_cons_self) (by simp)
  | x :: a, [], _, _, h => absurd ((h x).1 List.mem_cons_self) (by simp)
  | x :: a, y :: b, ha, hb, h => by
    obtain ⟨a1, a2⟩ := List.pairwise_cons.1 ha
    obtain ⟨b1, b2⟩ := List.pairwise_cons.1 hb
    have hxy : x = y := by
      rcases List.mem_cons.1 ((h x).1 List.mem_cons_self) with hx | hx
      · exact hx
      · rcases List.mem_cons.1 ((h y).2 List.mem_cons_self) with hy | hy
        · exact hy.symm
        · exact absurd (bcmp_trans _ _ _ (a1 y hy) (b1 x hx)) (bcmp_irrefl _)
    subst hxy
    congr 1
    refine sortedP_ext a2 b2 fun p => ⟨fun hp => ?_, fun hp => ?_⟩
    · rcases List.mem_cons.1 ((h p).1 (List.mem_cons_of_mem _ hp)) with rfl | h1
      · exact absurd (a1 p hp) (bcmp_irrefl _)
      · exact h1
    · rcases List.mem_cons.1 ((h p).2 (List.mem_cons_of_mem _ hp)) with rfl | h1
      · exact absurd (b1 p hp) (bcmp_irrefl _)
      · exact h1

/-! ### what is found -/
theorem findE_one {E : List Ent} (h : SortedE E) {L : List SpanE} {u v : List UInt8} {q : Nat} : findE E L u q = (v, 1) ↔ ∃ e, E.find? (fitsK u q) = some e ∧ coverE L u q ≤ e.key.seq.toNat ∧ isPut e = true ∧ e.value = v := by
  unfold findE
  rw [findF_sorted h]
  cases hf : E.find? (fitsK u q) with
  | none =>
    have ht : tellF none = (0, [], 0) := rfl
    rw [ht]
    constructor
    · intro h1
      exfalso
      split at h1 <;> simp at h1
    · rintro ⟨e, h1, -⟩; cases h1
  | some e =>
    have ht : tellF (some e) = (e.key.seq.toNat, if e.key.kind.toNat = 1 then ([], 2) else (e.value, 1)) := rfl
    rw [ht]
    dsimp only
    by_cases hk : e.key.kind.toNat = 1
    · rw [if_pos hk]
      constructor
      · intro h1
        exfalso
        split at h1 <;> simp at h1
      · rintro ⟨e', h1, -, h3, -⟩
        injection h1 with h1
        subst h1
        unfold isPut at h3
        simp [hk] at h3
    · rw [if_neg hk]
      dsimp only
      by_cases hc : e.key.seq.toNat < coverE L u q
      · rw [if_pos (.inl hc)]
        constructor
        · intro h1; simp at h1
        · rintro ⟨e', h1, h2, -⟩
          injection h1 with h1
          subst h1
          omega
      · rw [if_neg (by rintro (h1 | ⟨-, h1⟩)
                       · exact hc h1
                       · cases h1)]
        constructor
        · intro h1
          injection h1 with h1 _
          exact ⟨e, rfl, by omega, by unfold isPut; simpa using hk, h1⟩
        · rintro ⟨e', h1, -, -, h4⟩
          injection h1 with h1
          subst h1
          rw [h4]
theorem below_same {U W A B : List Ent} (hU : SortedE U) {L : List SpanE} {qs : List Nat} {q : Nat} (hq : q ∈ qs) (hA : SortedE A) (hB : SortedE B) (mA : ∀ e, e ∈ A ↔ e ∈ U ∨ e ∈ W) (mB : ∀ e, e ∈ B ↔ e ∈ keepE U L false qs ∨ e ∈ W) :
    refSeen A L q = refSeen B L q := by
  have hkf : ∀ e, e ∈ keepE U L false qs ↔ e ∈ U ∧ staysE U L qs e = true := fun e => by unfold keepE; rw [if_neg (by decide), List.mem_filter]
  have hBA : ∀ e ∈ B, e ∈ A := fun e he => (mA e).2 (((mB e).1 he).imp (fun h => ((hkf e).1 h).1) id)
  have hUA : ∀ e ∈ U, e ∈ A := fun e he => (mA e).2 (.inl he)
  have stays : ∀ {e u}, A.find? (fitsK u q) = some e → e ∈ U → coverE L u q ≤ e.key.seq.toNat → e ∈ B := fun {e u} hf he hc => by
    obtain ⟨-, g2, g3⟩ := (find_first hA).1 hf
    have hu := (fitsK_self g2).1
    subst hu
    exact (mB e).2 (.inl ((hkf e).2 ⟨he, staysE_of hq (seesE_iff.2 ⟨(find_first hU).2 ⟨he, g2, fun y hy => g3 y (hUA y hy)⟩, hc⟩)⟩))
  refine sortedP_ext (sorted_refSeen _ _ _ _) (sorted_refSeen _ _ _ _) fun p => ?_
  unfold refSeen
  rw [mem_refSeenF, mem_refSeenF]
  have red : ∀ {E : List Ent}, SortedE E → ((∃ e ∈ E, e.key.user = p.key) ∧ findE E L p.key q = (p.val, 1) ↔ ∃ e, E.find? (fitsK p.key q) = some e ∧ coverE L p.key q ≤ e.key.seq.toNat ∧ isPut e = true ∧ e.value = p.val) := fun {E} hE => by
    rw [findE_one hE]
    refine ⟨fun h => h.2, fun h => ⟨?_, h⟩⟩
    obtain ⟨e, h1, -⟩ := h
    exact ⟨e, List.mem_of_find?_eq_some h1, (fitsK_self (List.find?_some h1)).1⟩
  rw [red hA, red hB]
  constructor
  · rintro ⟨e, h1, h2, h3⟩
    obtain ⟨g1, g2, g3⟩ := (find_first hA).1 h1
    have heB : e ∈ B := by
      rcases (mA e).1 g1 with h | h
      · exact stays h1 h h2
      · exact (mB e).2 (.inr h)
    exact ⟨e, (find_first hB).2 ⟨heB, g2, fun y hy => g3 y (hBA y hy)⟩, h2, h3⟩
  · rintro ⟨e, h1, h2, h3⟩
    obtain ⟨g1, g2, g3⟩ := (find_first hB).1 h1
    cases hf : A.find? (fitsK p.key q) with
    | none => exact absurd g2 (List.find?_eq_none.1 hf e (hBA e g1))
    | some e0 =>
      obtain ⟨k1, k2, k3⟩ := (find_first hA).1 hf
      rcases k3 e (hBA e g1) g2 with rfl | hlt
      · exact ⟨e, rfl, h2, h3⟩
      · exfalso
        have hle := kcmp_seq hlt ((fitsK_self k2).1.trans (fitsK_self g2).1.symm)
        have h0 : e0 ∈ B := by
          rcases (mA e0).1 k1 with h | h
          · exact stays hf h (by omega)
          · exact (mB e0).2 (.inr h)
        rcases g3 e0 h0 k2 with h | h
        · rw [h] at hlt; exact kcmp_irrefl _ hlt
        · exact kcmp_irrefl _ (kcmp_trans h hlt)
/-- A list whose versions are right, and each there once, sorted. -/
theorem mem_sortE {l : List Ent} (hf : ∀ e ∈ l, fitE e = true) (hd : ∀ x ∈ l, ∀ y ∈ l, x.key = y.key → x = y) (e : Ent) : e ∈ sortE l ↔ e ∈ l := by
  have hl : l.filter fitE = l := List.filter_eq_self.2 hf
  unfold sortE
  rw [hl]
  constructor
  · intro h
    rcases mem_addAll h with h | h
    · cases h
    · exact h
  · intro h
    have h1 := find_addAll l [] e.key
    rw [List.nil_append] at h1
    cases hx : l.find? (hasK e.key) with
    | none =>
      have := List.find?_eq_none.1 hx e h
      simp [hasK] at this
    | some x =>
      have h2 := List.mem_of_find?_eq_some hx
      have h3 := List.find?_some hx
      have h4 : x.key = e.key := by simpa [hasK] using h3
      rw [← hd x h2 e h h4]
      rw [hx] at h1
      exact List.mem_of_find?_eq_some h1
theorem sortE_fit {l : List Ent} {e : Ent} (h : e ∈ sortE l) : e ∈ l ∧ fitE e = true := by
  unfold sortE at h
  rcases mem_addAll h with h | h
  · cases h
  · exact List.mem_filter.1 h
end Go.Proofs.Yteaanagljmcidaa
namespace Go.Proofs.Yteaanagljmcidaa
open Go.RowKit

attribute [local go_sem ↓] Go.wp_at_zero Go.wp_at_succ

/-- What a map has of a key. -/
def getP (m : List PairE) (key : List UInt8) : List UInt8 × Bool := match m.find? (fun p => p.key == key) with | none => ([], false) | some p => (p.val, true)
theorem getP_at {m : List PairE} {key : List UInt8} {i : Nat} (hi : i < m.length) (h : ∀ j (_ : j < i) (hj : j < m.length), (m[j].key == key) = false) (he : (m[i].key == key) = true) : getP m key = (m[i].val, true) := by
  have hf : m.find? (fun p => p.key == key) = some m[i] := List.find?_eq_some_iff_getElem.2 ⟨he, i, hi, rfl, fun j hj => by simpa using h j hj (by omega)⟩
  unfold getP
  rw [hf]
theorem getP_no {m : List PairE} {key : List UInt8} (h : ∀ j (_ : j < m.length) (hj : j < m.length), (m[j].key == key) = false) : getP m key = ([], false) := by
  unfold getP
  rw [List.find?_eq_none.2 fun p hp => by
    obtain ⟨j, hj, rfl⟩ := List.getElem_of_mem hp
    simpa using h j hj hj]

set_option maxRecDepth 100000 in
set_option maxHeartbeats 2000000 in
theorem r4_get (w : World) {F G : Nat → Prop} {mv kv : Value} (m : List PairE) (key : List UInt8) (hm : Sl pairC w F mv m) (hk : Bs w G kv key) :
    Calls Try.prog 75 #[mv, kv] w fun e w' => ∃ v, e = .returned (.tuple #[v, .bool (getP m key).2]) ∧ Ext w w' ∧ Bs w' (fun b => w.heap.size ≤ b) v (getP m key).1 := by
  obtain ⟨A, cap, rfl, h1, h2, h3, h4⟩ := hm.form
  have h3 : m.length ≤ 140737488355328 := h3
  obtain ⟨U, N, n, rfl⟩ := hk.form0
  have Hm := Lib.hid hm
  have Hk := Lib.hid hk
  clear h1 h2 h4 hm hk
  go_enter Try.func75, Try.ntmps75
  go_wp2
  go_loopw [10] (fun s10 wr => ∃ i : Nat, i ≤ m.length ∧ s10 = .int .i64 i ∧ Hid (∀ j (_ : j < i) (hj : j < m.length), (m[j].key == key) = false) ∧ Ext w wr) (fun s10 _ => m.length - (intOf s10).toNat)
  case atStart => exact ⟨0, Nat.zero_le _, rfl, Lib.hid fun j hj => absurd hj (by omega), Out.refl _ _⟩
  case round =>
    obtain ⟨wo, rfl⟩ : ∃ x : World, x = wr := ⟨_, rfl⟩
    obtain ⟨i, hi, rfl, Hno, hx⟩ := hrel
    have HX := Lib.hid hx
    clear hx
    by_cases hlt : i < m.length
    · obtain ⟨b1, o1, u1, v1, rfl, -, c0, c1, hu, hv⟩ := (Hm.out.ext HX.out).pair i hlt
      obtain ⟨U1, N1, n1, rfl⟩ := hu.form0
      obtain ⟨V1, M1, m1, rfl⟩ := hv.form0
      have x1 := Ext.alloc1 wo (.cells #[.slice U1 N1 n1, .slice V1 M1 m1] 107)
      obtain ⟨z0, z1, -⟩ := cells2 (blk_new wo (.cells #[.slice U1 N1 n1, .slice V1 M1 m1] 107))
      have HC := r1_same (wo.alloc (.cells #[.slice U1 N1 n1, .slice V1 M1 m1] 107)) (hu.ext x1) ((Hk.out.ext HX.out).ext x1)
      have HV := Lib.hid (hv.ext x1)
      have X1 := Lib.hid (HX.out.ext x1)
      have Hat := Lib.hid fun he => getP_at hlt Hno.out he
      have Hst : Hid ((m[i].key == key) = false → ∀ j (_ : j < i + 1) (hj : j < m.length), (m[j].key == key) = false) := Lib.hid fun he j hj hj' => by
        rcases Nat.lt_or_ge j i with h | h
        · exact Hno.out j h hj'
        · obtain rfl : j = i := by omega
          exact he
      clear hu hv x1
      generalize hq : (m[i].key == key) = q at *
      have HC := Lib.hid HC
      clear hq
      cases q with
      | true =>
        have HG := Lib.hid (Hat.out rfl)
        clear Hat Hst
        go_wp2_with (first
          | (go_at_call 74; refine HC.out.mono ?_; rintro r w1 ⟨rfl, rfl⟩)
          | (go_at_call 80; refine (r1_copy _ HV.out).mono ?_; rintro x w2 ⟨x2, rfl, hx2, hb2⟩; have HX2 := Lib.hid (X1.out.ext hx2); have Hb2 := Lib.hid (hb2.mono (G := fun b => w.heap.size ≤ b) (fun b hb _ => Nat.le_trans X1.out.size hb) (.inl (by decide))); obtain ⟨Z, zn, zc, rfl⟩ := hb2.form0; clear hx2 hb2))
        refine bodyPost_ret (v := .tuple #[.slice Z zn zc, .bool true]) (by simp [results, Try.results75, go_sem]) rfl ?_
        rw [HG.out]
        exact ⟨_, rfl, HX2.out, Hb2.out⟩
      | false =>
        have HS := Lib.hid (Hst.out rfl)
        clear Hat Hst
        go_wp2_with (go_at_call 74; refine HC.out.mono ?_; rintro r w1 ⟨rfl, rfl⟩)
        go_roundw
        case rel => exact ⟨i + 1, by omega, by go_num, HS, X1.out⟩
        case measure => simp [intOf]; omega
    · obtain rfl : i = m.length := by omega
      have HG := Lib.hid (getP_no Hno.out)
      go_wp2
      refine bodyPost_ret (v := .tuple #[.slice none 0 0, .bool false]) (by simp [results, Try.results75, go_sem]) rfl ?_
      rw [HG.out]
      exact ⟨_, rfl, HX.out, Sl.nil _ _ _⟩

theorem applyAllE_take (l : List OpE) (i : Nat) : (applyAllE [] (l.take i)).length ≤ l.length := by
  have h := applyAllE_length (l.take i) []
  rw [List.length_take] at h
  simp at h
  omega

set_option maxRecDepth 100000 in
set_option maxHeartbeats 2000000 in
theorem r4_applyAll (w : World) {F : Nat → Prop} {v : Value} (l : List OpE) (hv : Sl opC w F v l) (hl : l.length ≤ 90000) :
    Calls Try.prog 72 #[.slice none 0 0, v] w fun e w' => ∃ u, e = .returned u ∧ Ext w w' ∧ Sl pairC w' (fun b => b < w'.heap.size) u (applyAllE [] l) := by
  obtain ⟨A, N, n, rfl⟩ := hv.form0
  have Hv := Lib.hid hv
  clear hv
  go_enter Try.func72, Try.ntmps72
  go_wp2_with (go_at_call 133; refine (r4_copy _ l Hv.out (by omega)).mono ?_; rintro r w1 ⟨v1, rfl, hx1, ho1⟩; have HX1 := Lib.hid hx1; have HL1 := Lib.hid (ho1.sl (G := fun b => b < w1.heap.size) (by decide) (by show _ ≤ 140737488355328; omega) (fun _ _ h => h) (fun _ _ h => h)); obtain ⟨A1, c1, rfl, -⟩ := ho1.form; clear hx1 ho1)
  have hsz := HX1.out.size
  go_loopw [0, 10] (fun s0 s10 wr => ∃ i : Nat, i ≤ l.length ∧ s10 = .int .i64 i ∧ Sl pairC wr (fun b => b < wr.heap.size) s0 (applyAllE [] (l.take i)) ∧ Ext w1 wr) (fun _ s10 _ => l.length - (intOf s10).toNat)
  case atStart => exact ⟨0, Nat.zero_le _, rfl, Sl.nil _ _ _, Out.refl _ _⟩
  case round =>
    obtain ⟨wo, rfl⟩ : ∃ x : World, x = wr := ⟨_, rfl⟩
    obtain ⟨i, hi, rfl, hm, hx⟩ := hrel
    obtain ⟨M0, mn, mc, rfl⟩ := hm.form0
    have HX := Lib.hid hx
    have hlen := applyAllE_take l i
    by_cases hlt : i < l.length
    · obtain ⟨b1, o1, u1, v1, rfl, -, c0, c1, c2, hu, hv⟩ := (HL1.out.ext HX.out).op i hlt
      obtain ⟨U1, N1, n1, rfl⟩ := hu.form0
      obtain ⟨V1, M1, m1, rfl⟩ := hv.form0
      have x1 := Ext.alloc1 wo (.cells #[byteV l[i].kind, .slice U1 N1 n1, .slice V1 M1 m1] 112)
      obtain ⟨z0, z1, z2, -⟩ := cells3 (blk_new wo (.cells #[byteV l[i].kind, .slice U1 N1 n1, .slice V1 M1 m1] 112))
      have hz1 := HX.out.size
      have HA := Lib.hid (r4_apply (wo.alloc (.cells #[byteV l[i].kind, .slice U1 N1 n1, .slice V1 M1 m1] 112)) (F := fun b => b < wo.heap.size) (applyAllE [] (l.take i)) l[i] (hm.ext x1) ((hu.ext x1).mono (fun b hb _ => by omega) (.inl (by decide))) ((hv.ext x1).mono (fun b hb _ => by omega) (.inl (by decide))) (fun b hb => by rw [World.size_alloc]; omega) (by omega))
      have X1 := Lib.hid (HX.out.ext x1)
      have Hs := Lib.hid (applyAllE_succ hlt [])
      clear hm hx hu hv x1 hlen
      go_wp2_with (go_at_call 131; refine HA.out.mono ?_; rintro r w2 ⟨r2, rfl, hx2, hm2⟩; have HX2 := Lib.hid (X1.out.ext hx2); have Hm2 := Lib.hid hm2; obtain ⟨M2, mn2, mc2, rfl⟩ := hm2.form0; clear hx2 hm2)
      go_roundw
      case rel => exact ⟨i + 1, by omega, by go_num, by rw [Hs.out]; exact Hm2.out.mono (fun b _ h => h) (.inl (by decide)), HX2.out⟩
      case measure => simp [intOf]; omega
    · obtain rfl : i = l.length := by omega
      rw [List.take_length] at hm
      have Hm := Lib.hid hm
      clear hm hx hlen
      go_wp2
      go_ret
      exact ⟨_, rfl, HX1.out.ext HX.out, Hm.out⟩
end Go.Proofs.Yteaanagljmcidaa

/- law08: awake. -/
import Derived.Test.YteaanagljmcidaaEntry8
import Derived.Test.YteaanagljmcidaaSkAll
namespace Go.Proofs.Yteaanagljmcidaa
open Go.RowKit

attribute [local go_sem ↓] Go.wp_at_zero Go.wp_at_succ

theorem Sl.below {α : Type} {c : Codec α} {w : World} {F : Nat → Prop} {v : Value} {l : List α} (h : Sl c w F v l) (hs : 0 < c.size) : Sl c w (fun b => F b ∧ b < w.heap.size) v l := h.mono (fun _ hb hl => ⟨hb, hl⟩) (.inl hs)

def eB : Ent := ⟨⟨[98], 1, 2⟩, []⟩
def eA : Ent := ⟨⟨[97], 1, 2⟩, []⟩
def eB5 : Ent := ⟨⟨[98], 5, 2⟩, []⟩

theorem aw1 : insR [] eB 2 = 0 ∧ insN [] eB 2 = [(eB, 2)] := by decide
theorem aw2 : insR [(eB, 2)] eA 1 = 0 ∧ insN [(eB, 2)] eA 1 = [(eA, 1), (eB, 2)] := by decide
theorem aw3 : beforeE ([(eA, 1), (eB, 2)].map (·.1)) eB5.key = some eA := by decide
theorem aw4 : rowM [(eA, 1), (eB, 2)] (1 + 1) = [eB.key] := by decide

theorem law08_entryI (w : World) (l : List UInt8) (hl : l.length ≤ 1000000) (s : UInt64) (sv : ByteArray) (n : Int) (hs : sv = strOf l) (hn : n = (s.toNat : Int)) : Calls Try.prog 95 #[.string sv, .int .u64 n] w fun r w' => ∃ u, r = .returned (.agg #[u, u64V (⟨⟨l, s, 2⟩, []⟩ : Ent).key.seq, byteV (⟨⟨l, s, 2⟩, []⟩ : Ent).key.kind, .slice none 0 0]) ∧ Ext w w' ∧ Bs w' (fun b => w.heap.size ≤ b) u l := by
  subst hs hn; exact law08_entry w l hl s

/-- An entry whose blocks are new, put in. -/
theorem sk_insertNew {w0 w : World} {L : Nat} {m m' : List (Ent × Nat)} {e : Ent} {u x : Value} {B : Nat} {ht : Int} {c : Int} (h : SkM w (fun b => B ≤ b) L m) (hB : B ≤ w.heap.size) (hm : m.length < 90000) (hu : Bs w (fun b => w0.heap.size ≤ b) u e.key.user) (hx : Bs w (fun b => w0.heap.size ≤ b) x e.value)
    (hr : insR m e ht = c) (hn : insN m e ht = m') :
    Calls Try.prog 28 #[.pointer (some ⟨L, 0, none⟩), .agg #[u, u64V e.key.seq, byteV e.key.kind, x], .int .i64 ht] w fun r w' => r = .returned (.int .i64 c) ∧ Out (fun b => B ≤ b) w w' ∧ SkM w' (fun b => B ≤ b) L m' := by
  subst hr hn
  refine (sk_insert h hm (F := fun b => w0.heap.size ≤ b ∧ b < w.heap.size) (fun b hb => hb.2) (hu.below (by decide)) (hx.below (by decide)) ht).mono ?_
  rintro r w' ⟨rfl, ho, hs⟩
  exact ⟨rfl, ho, hs.mono fun b _ hb => by omega⟩

theorem field_key (a b c d : Value) (w : World) : (Instr.field 32 (.agg #[a, b, c, d]) 0).run Try.prog w = .ok (.agg #[a, b, c]) w := by kernel_rfl

theorem Sl.keyAt {w : World} {F : Nat → Prop} {A : Option Addr} {n cap : Nat} {l : List Key} (h : Sl keyC w F (.slice A n cap) l) (i : Nat) (hi : i < l.length) :
    ∃ b off u, A = some ⟨b, off, none⟩ ∧ F b ∧ w.cell? ⟨b, off + i * 3, none⟩ = some u ∧ w.cell? ⟨b, off + i * 3 + 1, none⟩ = some (u64V l[i].seq) ∧ w.cell? ⟨b, off + i * 3 + 2, none⟩ = some (byteV l[i].kind) ∧ Bs w F u l[i].user := by
  obtain ⟨b, off, cs, hA, hF, hat, u, rfl, h1⟩ := h.get i hi
  exact ⟨b, off, u, hA, hF, hat 0 _ rfl, hat 1 _ rfl, hat 2 _ rfl, h1⟩

/-- Of an owned list: as a list. -/
theorem Owned.toSl {α : Type} {c : Codec α} {e : TypeId} {w w' : World} {l : List α} {v : Value} (h : Own c e w' w.heap.size (fun b => w.heap.size ≤ b) v l) (hs : 0 < c.size) (hl : l.length ≤ c.bound) : Sl c w' (fun b => w.heap.size ≤ b) v l :=
  h.sl hs hl (fun _ hb _ => hb) (fun _ hb _ => hb)

theorem sk_rowI {w : World} {Foot : Nat → Prop} {L : Nat} {m : List (Ent × Nat)} (h : SkM w Foot L m) (r : Nat) (hr : r < 8) (n : Int) (hn : n = (r : Int) + 1) (l : List Key) (hl : rowM m (r + 1) = l) :
    Calls Try.prog 29 #[.pointer (some ⟨L, 0, none⟩), .int .i64 n] w (Owned keyC 30 w l) := by
  subst hn hl; exact sk_rowM h r hr

theorem str_of {w : World} {F : Nat → Prop} {v : Value} {l : List UInt8} (h : Bs w F v l) : (convert 27 9 v).run Try.prog w = .ok (.string (strOf l)) w :=
  run_bytes_string h Try.underlying27 Try.underlying5 Try.underlying9

set_option maxRecDepth 100000 in
set_option maxHeartbeats 1000000 in
theorem law08_awake (w : World) : Calls Try.prog 25 #[] w fun e w' => e = .returned (.bool true) ∧ Ext w w' := by
  have hfk := field_key
  have hsA : ((strOf eA.key.user).toList == [97]) = true := by rw [strOf_toList]; decide
  have hsB : ((strOf eB.key.user).toList == [98]) = true := by rw [strOf_toList]; decide
  go_enter Try.func25, Try.ntmps25
  go_wp2_with (first
    | (go_at_call 26; refine (sk_newM _).mono ?_; rintro r w1 ⟨L, rfl, hx1, hs1⟩)
    | (have hh := hs1; clear hh; go_at_call 95; refine (law08_entryI _ [98] (by decide) 1 _ _ rfl rfl).mono ?_; rintro r w2 ⟨u2, rfl, hx2, hb2⟩; obtain ⟨A2, k2, m2, rfl⟩ := hb2.form0)
    | (have hh := hs1; clear hh; go_at_call 28; refine (sk_insertNew (e := eB) (m' := [(eB, 2)]) (w0 := w1) (hs1.ext hx2) (Nat.le_trans hx1.size hx2.size) (by decide) hb2 (Sl.nil _ _ _) aw1.1 aw1.2).mono ?_; rintro r w3 ⟨rfl, ho3, hs3⟩; clear hs1 hb2)
    | (have hh := hs3; clear hh; go_at_call 95; refine (law08_entryI _ [97] (by decide) 1 _ _ rfl rfl).mono ?_; rintro r w4 ⟨u4, rfl, hx4, hb4⟩; obtain ⟨A4, k4, m4, rfl⟩ := hb4.form0)
    | (have hh := hs3; clear hh; go_at_call 28; refine (sk_insertNew (e := eA) (m' := [(eA, 1), (eB, 2)]) (w0 := w3) (hs3.ext hx4) (Nat.le_trans (Nat.le_trans (Nat.le_trans hx1.size hx2.size) ho3.size) hx4.size) (by decide) hb4 (Sl.nil _ _ _) aw2.1 aw2.2).mono ?_; rintro r w5 ⟨rfl, ho5, hs5⟩; clear hs3 hb4)
    | (have hh := hs5; clear hh; go_at_call 95; refine (law08_entryI _ [98] (by decide) 5 _ _ rfl rfl).mono ?_; rintro r w6 ⟨u6, rfl, hx6, hb6⟩; obtain ⟨A6, k6, m6, rfl⟩ := hb6.form0)
    | (go_at_call 37; refine (sk_beforeM (k := eB5.key) _ (hs5.ext hx6) (F := fun b => w5.heap.size ≤ b ∧ b < w6.heap.size) (fun b hb => hb.2) (hb6.below (by decide))).mono ?_; rw [aw3]; rintro r w7 ⟨u7, v7, rfl, hx7, hb7, hc7⟩; simp only [Option.getD_some, Option.isSome_some] at *; obtain ⟨A7, k7, m7, rfl⟩ := hb7.form0; obtain ⟨C7, c7, d7, rfl⟩ := hc7.form0; have hs7 := (hs5.ext hx6).ext hx7; clear hs5 hb6)
    | (go_at_call 29; refine (sk_rowI (hs7.ext (Ext.alloc1 _ (.cells #[.slice A7 k7 m7, u64V eA.key.seq, byteV eA.key.kind, .slice C7 c7 d7] 32))) 1 (by decide) 2 rfl [eB.key] aw4).mono ?_; rintro r w8 ⟨v8, rfl, hx8, ho8⟩; have hsl := Owned.toSl ho8 (by decide) (by decide); obtain ⟨A8, n8, rfl, -⟩ := hsl.form; obtain ⟨b8, o8, y8, rfl, -, g0, g1, g2, hb8⟩ := hsl.keyAt 0 (by decide); obtain ⟨A9, k9, m9, rfl⟩ := hb8.form0; simp only [Nat.zero_mul, Nat.add_zero, List.getElem_cons_zero] at g0 g1 g2 hb8; obtain ⟨t0, t1, t2, t3, -⟩ := cells4 (hx8.blk (blk_new w7 (.cells #[.slice A7 k7 m7, u64V eA.key.seq, byteV eA.key.kind, .slice C7 c7 d7] 32)) (fun f => f)); have q7 := str_of ((hb7.alloc (.cells #[.slice A7 k7 m7, u64V eA.key.seq, byteV eA.key.kind, .slice C7 c7 d7] 32)).ext hx8); have q8 := str_of hb8; have hs8 := (hs7.ext (Ext.alloc1 _ (.cells #[.slice A7 k7 m7, u64V eA.key.seq, byteV eA.key.kind, .slice C7 c7 d7] 32))).ext hx8; clear hs7)
    | (go_at_call 30; refine (sk_lenM _ hs8).mono ?_; rintro r w9 ⟨rfl, rfl⟩))
  go_ret
  exact ⟨rfl, (((((((hx1.ext hx2).then ho3 (fun i hi h => by omega)).ext hx4).then ho5 (fun i hi h => by omega)).ext hx6).ext hx7).alloc _).ext hx8⟩
end Go.Proofs.Yteaanagljmcidaa

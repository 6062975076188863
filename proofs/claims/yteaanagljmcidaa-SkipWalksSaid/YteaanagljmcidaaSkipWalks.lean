/- law08: SkipWalks. -/
import Derived.Test.YteaanagljmcidaaLawIns
namespace Go.Proofs.Yteaanagljmcidaa
open Go.RowKit

attribute [local go_sem ↓] Go.wp_at_zero Go.wp_at_succ

/-- In order, as entries. -/
def SortedE (l : List Ent) : Prop := l.Pairwise fun a b => kcmp a.key b.key < 0
theorem sortedE_of {m : List (Ent × Nat)} (h : SortedM m) : SortedE (m.map (·.1)) := by
  unfold SortedE; rw [List.pairwise_map]; exact h

theorem split_at {l : List Ent} {i : Nat} (hi : i < l.length) : l = l.take i ++ l[i] :: l.drop (i + 1) := by
  rw [← List.drop_eq_getElem_cons hi, List.take_append_drop]

theorem ahead_take {l : List Ent} (h : SortedE l) {i : Nat} (hi : i < l.length) : (∀ x ∈ l.take i, kcmp x.key l[i].key < 0) ∧ ∀ x ∈ l.drop (i + 1), ¬ kcmp x.key l[i].key < 0 := by
  have hs := h
  unfold SortedE at hs
  rw [split_at hi, List.pairwise_append, List.pairwise_cons] at hs
  exact ⟨fun x hx => hs.2.2 x hx l[i] List.mem_cons_self, fun x hx h2 => kcmp_irrefl _ (kcmp_trans (hs.2.1.1 x hx) h2)⟩

theorem from_at {l : List Ent} (h : SortedE l) {i : Nat} (hi : i < l.length) : fromE l l[i].key = some l[i] := by
  obtain ⟨h1, h2⟩ := ahead_take h hi
  have hsp := split_at hi
  generalize l[i] = z at *
  unfold fromE
  have e1 : (l.take i).find? (fun e => !decide (kcmp e.key z.key < 0)) = none := List.find?_eq_none.2 fun x hx => by simpa using h1 x hx
  have e2 : (!decide (kcmp z.key z.key < 0)) = true := by simpa using kcmp_irrefl z.key
  conv => lhs; rw [hsp]
  rw [List.find?_append, List.find?_cons, e1, e2]; rfl

theorem before_at {l : List Ent} (h : SortedE l) {i : Nat} (hi : i < l.length) : beforeE l l[i].key = (l.take i).getLast? := by
  obtain ⟨h1, h2⟩ := ahead_take h hi
  have hsp := split_at hi
  generalize l[i] = z at *
  unfold beforeE
  conv => lhs; rw [hsp]
  rw [List.filter_append, List.filter_cons_of_neg (by simpa using kcmp_irrefl z.key), List.filter_eq_self.2 (fun x hx => by simpa using h1 x hx), List.filter_eq_nil_iff.2 (fun x hx => by simpa using h2 x hx), List.append_nil]
theorem before_zero {l : List Ent} (h : SortedE l) (hi : 0 < l.length) : beforeE l l[0].key = none := by rw [before_at h hi]; rfl
theorem before_succ {l : List Ent} (h : SortedE l) {i : Nat} (hi : i + 1 < l.length) : beforeE l l[i + 1].key = some l[i] := by
  rw [before_at h hi, List.getLast?_take, if_neg (by omega)]
  simp [show i < l.length from by omega]

set_option maxRecDepth 100000 in
set_option maxHeartbeats 2000000 in
theorem skipWalks_walk (w : World) {F : Nat → Prop} {x : Value} (l : List PutE) (hx : Sl putCA w F x l) :
    Calls Try.prog 5 #[x] w fun e w' => e = .returned (.bool true) ∧ Ext w w' := by
  obtain ⟨A, N, n, rfl⟩ := hx.form0
  have Hx := Lib.hid hx
  clear hx
  go_enter Try.func5, Try.ntmps5
  go_wp2_with (first
    | (go_at_call 25; refine (law08_awake _).mono ?_; rintro r w1 ⟨rfl, hx1⟩)
    | (go_at_call 26; refine (sk_newM _).mono ?_; rintro r w2 ⟨L, rfl, hx2, hs2⟩)
    | (go_at_call 27; refine (law08_few _ l ((Hx.out.ext hx1).ext hx2)).mono ?_; rintro r w3 ⟨v3, rfl, hx3, hs3⟩; have hI := Lib.hid (InsRel.start hs2 hx2.size hx3 hs3); obtain ⟨A3, n3, rfl, -⟩ := hs3.form; have hlen3 := hI.out.few; clear hs2 hs3))
  generalize fewP l = fl at *
  go_loopw [19] (fun s18 wr => ∃ k : Nat, k ≤ fl.length ∧ s18 = .int .i64 k ∧ InsRel w2 w3 wr w1.heap.size L fl (.slice A3 fl.length n3) k) (fun s18 _ => fl.length - (intOf s18).toNat)
  case atStart => exact ⟨0, Nat.zero_le _, rfl, hI.out⟩
  case round =>
    obtain ⟨k, hk, rfl, hI⟩ := hrel
    by_cases hlt : k < fl.length
    · obtain ⟨b1, o1, u1, v1, rfl, -, c0, c1, c2, c3, c4, hu, hv, -, -⟩ := hI.sl.put k hlt
      obtain ⟨U, N1, n1, rfl⟩ := hu.form0
      obtain ⟨V, N2, n2, rfl⟩ := hv.form0
      have HI := Lib.hid (hI.step (Ext.alloc1 wr (.cells #[.slice U N1 n1, u64V fl[k].e.key.seq, byteV fl[k].e.key.kind, .slice V N2 n2, .int .i64 fl[k].h] 34)))
      have Hu := Lib.hid (hu.alloc (.cells #[.slice U N1 n1, u64V fl[k].e.key.seq, byteV fl[k].e.key.kind, .slice V N2 n2, .int .i64 fl[k].h] 34))
      have Hv := Lib.hid (hv.alloc (.cells #[.slice U N1 n1, u64V fl[k].e.key.seq, byteV fl[k].e.key.kind, .slice V N2 n2, .int .i64 fl[k].h] 34))
      obtain ⟨z0, z1, z2, z3, z4, -⟩ := cells5 (blk_new wr (.cells #[.slice U N1 n1, u64V fl[k].e.key.seq, byteV fl[k].e.key.kind, .slice V N2 n2, .int .i64 fl[k].h] 34))
      clear hI hu hv
      go_wp2_with (first | (go_at_call 28; refine (HI.out.call hlt Hu.out Hv.out).mono ?_; rintro r w4 ⟨⟨c, rfl⟩, hI4⟩))
      go_roundw
      case rel => exact ⟨k + 1, by omega, by go_num, hI4⟩
      case measure => simp [intOf]; omega
    · obtain rfl : k = fl.length := by omega
      have hR := Lib.hid (⟨hI.out.footp ((hx1.ext hx2).ext hx3) (by have := hx1.size; omega), hI.done⟩ : Rest w wr w1.heap.size w2.heap.size w3.heap.size L (insAll [] fl))
      clear hI
      have Hok := Lib.hid (okM_all fl)
      have hm60 := all_le fl hlen3
      generalize insAll [] fl = m at *
      obtain ⟨all, hallE⟩ : ∃ all, m.map (·.1) = all := ⟨_, rfl⟩
      have hl60 : all.length ≤ 60 := by rw [← hallE, List.length_map]; exact hm60
      have hAll : ∀ w', SkM w' (FootP w1.heap.size w2.heap.size w3.heap.size) L m → Calls Try.prog 33 #[.pointer (some ⟨L, 0, none⟩)] w' (Owned entC 32 w' all) := fun w' h => hallE ▸ sk_allM h
      have hFrom : ∀ (k : Key) (w' : World) (F : Nat → Prop) (u : Value), SkM w' (FootP w1.heap.size w2.heap.size w3.heap.size) L m → (∀ b, F b → b < w'.heap.size) → Bs w' F u k.user → Calls Try.prog 35 #[.pointer (some ⟨L, 0, none⟩), .agg #[u, u64V k.seq, byteV k.kind]] w' (Told w' (fromE all k)) := fun k w' F u h1 h2 h3 => hallE ▸ sk_fromM w' h1 h2 h3
      have hBefore : ∀ (k : Key) (w' : World) (F : Nat → Prop) (u : Value), SkM w' (FootP w1.heap.size w2.heap.size w3.heap.size) L m → (∀ b, F b → b < w'.heap.size) → Bs w' F u k.user → Calls Try.prog 37 #[.pointer (some ⟨L, 0, none⟩), .agg #[u, u64V k.seq, byteV k.kind]] w' (Told w' (beforeE all k)) := fun k w' F u h1 h2 h3 => hallE ▸ sk_beforeM w' h1 h2 h3
      have HAll := Lib.hid hAll
      have HFrom := Lib.hid hFrom
      have HBefore := Lib.hid hBefore
      have HallE := Lib.hid hallE
      clear hAll hFrom hBefore hallE
      have Hsort := Lib.hid (HallE.out ▸ sortedE_of hR.out.sk.sorted)
      clear hm60
      go_wp2_with (first
        | (go_at_call 33; refine (HAll.out _ hR.out.sk).mono ?_; rintro r w4 ⟨v4, rfl, hx4, ho4⟩; have hR4 := Lib.hid (hR.out.step hx4); have hsl4 := Lib.hid (Owned.ents ho4 (by omega)); obtain ⟨A4, n4, rfl, -⟩ := hsl4.out.form; clear hR ho4))
      go_loopw [34] (fun s34 wr => ∃ i : Nat, i ≤ all.length ∧ s34 = .int .i64 i ∧ Ext w4 wr) (fun s34 _ => all.length - (intOf s34).toNat)
      case atStart => exact ⟨0, Nat.zero_le _, rfl, Out.refl _ _⟩
      case round =>
        obtain ⟨i, hi, rfl, hx5⟩ := hrel
        have Hx5 := Lib.hid hx5
        by_cases hlt : i < all.length
        · obtain ⟨b1, o1, u1, v1, hA1, -, c0, c1, c2, c3, hu, hv⟩ := (hsl4.out.ext hx5).ent i hlt
          subst hA1
          obtain ⟨U, N1, n1, rfl⟩ := hu.form0
          obtain ⟨V, N2, n2, rfl⟩ := hv.form0
          have hz := blk_new wr (.cells #[.slice U N1 n1, u64V all[i].key.seq, byteV all[i].key.kind, .slice V N2 n2] 32)
          obtain ⟨z0, z1, z2, z3, -⟩ := cells4 hz
          have Hz := Lib.hid hz
          have Hu := Lib.hid ((hu.alloc (.cells #[.slice U N1 n1, u64V all[i].key.seq, byteV all[i].key.kind, .slice V N2 n2] 32)).below (by decide))
          have Hv := Lib.hid (hv.alloc (.cells #[.slice U N1 n1, u64V all[i].key.seq, byteV all[i].key.kind, .slice V N2 n2] 32))
          have hR5 := Lib.hid ((hR4.out.step hx5).step (Ext.alloc1 wr (.cells #[.slice U N1 n1, u64V all[i].key.seq, byteV all[i].key.kind, .slice V N2 n2] 32)))
          have hf := Lib.hid (from_at Hsort.out hlt)
          obtain ⟨ob, hob⟩ : ∃ ob, beforeE all all[i].key = ob := ⟨_, rfl⟩
          have Hob := Lib.hid hob
          clear hu hv hz hx5 hob
          go_wp2_with (first
            | (go_at_call 35; refine (HFrom.out all[i].key _ (fun b => True ∧ b < _) _ hR5.out.sk (fun b hb => hb.2) Hu.out).mono ?_; rw [hf.out]; rintro r w6 ⟨u6, v6, rfl, hx6, hb6, hc6⟩; simp only [Option.getD_some, Option.isSome_some] at *; obtain ⟨A6, k6, m6, rfl⟩ := hb6.form0; obtain ⟨C6, c6, d6, rfl⟩ := hc6.form0; obtain ⟨y0, y1, y2, y3, -⟩ := cells4 (blk_alloc (hx6.blk Hz.out (fun f => f)) (.cells #[.slice A6 k6 m6, u64V all[i].key.seq, byteV all[i].key.kind, .slice C6 c6 d6] 32)); obtain ⟨t0, t1, t2, t3, -⟩ := cells4 (blk_new w6 (.cells #[.slice A6 k6 m6, u64V all[i].key.seq, byteV all[i].key.kind, .slice C6 c6 d6] 32)))
            | (go_at_call 36; refine (r3_sameEntry _ all[i] all[i] (hb6.alloc _) ((Hu.out.ext hx6).alloc _) (hc6.alloc _) ((Hv.out.ext hx6).alloc _)).mono ?_; rintro r w7 ⟨rfl, hx7⟩; have hz7 := Lib.hid (hx7.blk (blk_alloc (hx6.blk Hz.out (fun f => f)) (.cells #[.slice A6 k6 m6, u64V all[i].key.seq, byteV all[i].key.kind, .slice C6 c6 d6] 32)) (fun f => f)); obtain ⟨q0, q1, q2, q3, -⟩ := cells4 hz7.out; have hR7 := Lib.hid (((hR5.out.step hx6).step (Ext.alloc1 _ (.cells #[.slice A6 k6 m6, u64V all[i].key.seq, byteV all[i].key.kind, .slice C6 c6 d6] 32))).step hx7); have Hu7 := Lib.hid (((Hu.out.ext hx6).alloc (.cells #[.slice A6 k6 m6, u64V all[i].key.seq, byteV all[i].key.kind, .slice C6 c6 d6] 32)).ext hx7); have hx57 := Lib.hid (((Hx5.out.alloc (.cells #[.slice U N1 n1, u64V all[i].key.seq, byteV all[i].key.kind, .slice V N2 n2] 32)).ext hx6).alloc (.cells #[.slice A6 k6 m6, u64V all[i].key.seq, byteV all[i].key.kind, .slice C6 c6 d6] 32) |>.ext hx7); clear Hu Hv hb6 hc6 hR5)
            | (go_at_call 37; refine (HBefore.out all[i].key _ (fun b => (True ∧ b < _) ) _ hR7.out.sk (fun b hb => Nat.lt_of_lt_of_le hb.2 (Nat.le_trans hx6.size (Nat.le_trans (by simp) hx7.size))) Hu7.out).mono ?_; rw [Hob.out]; rintro r w8 ⟨u8, v8, rfl, hx8, hb8, hc8⟩; obtain ⟨A8, k8, m8, rfl⟩ := hb8.form0; obtain ⟨C8, c8, d8, rfl⟩ := hc8.form0))
          have hx58 := Lib.hid ((hx57.out.ext hx8).alloc (.cells #[.slice A8 k8 m8, u64V (ob.getD zeroE).key.seq, byteV (ob.getD zeroE).key.kind, .slice C8 c8 d8] 32))
          obtain ⟨t0', t1', t2', t3', -⟩ := cells4 (blk_new w8 (.cells #[.slice A8 k8 m8, u64V (ob.getD zeroE).key.seq, byteV (ob.getD zeroE).key.kind, .slice C8 c8 d8] 32))
          have Hb8 := Lib.hid (hb8.alloc (.cells #[.slice A8 k8 m8, u64V (ob.getD zeroE).key.seq, byteV (ob.getD zeroE).key.kind, .slice C8 c8 d8] 32))
          have Hc8 := Lib.hid (hc8.alloc (.cells #[.slice A8 k8 m8, u64V (ob.getD zeroE).key.seq, byteV (ob.getD zeroE).key.kind, .slice C8 c8 d8] 32))
          clear hb8 hc8 c0 c1 c2 c3 z0 z1 z2 z3
          rcases Nat.eq_zero_or_pos i with hi0 | hi0
          · subst hi0
            have h0 : ob = none := by rw [← Hob.out]; exact before_zero Hsort.out hlt
            subst h0
            simp only [Option.isSome_none, Option.getD_none] at *
            go_quiet (fail)
            go_wp2
            go_roundw
            case rel => exact ⟨0 + 1, by omega, by go_num, hx58.out.drewN _⟩
            case measure => simp [intOf]; omega
          · obtain ⟨q, rfl⟩ : ∃ q, i = q + 1 := ⟨i - 1, by omega⟩
            have h0 : ob = some all[q] := by rw [← Hob.out]; exact before_succ Hsort.out hlt
            subst h0
            simp only [Option.isSome_some, Option.getD_some] at *
            have hql : q < all.length := by omega
            have hw1 : IntKind.i64.wrap (((q + 1 : Nat) : Int) - 1) = (q : Int) := by rw [IntKind.wrap_i64]; omega
            have hw2 : IntKind.i64.wrap ((q : Int) + 1 - 1) = (q : Int) := by rw [IntKind.wrap_i64]; omega
            have hw3 : IntKind.i64.wrap (q : Int) = (q : Int) := by rw [IntKind.wrap_i64]; omega
            obtain ⟨b2, o2, u2', v2', hA2, -, g0, g1, g2, g3, hu2, hv2⟩ := (hsl4.out.ext hx58.out).ent q hql
            injection hA2 with hA2
            injection hA2 with e1 e2
            subst e1 e2
            obtain ⟨A9, k9, m9, rfl⟩ := hu2.form0
            obtain ⟨C9, c9, d9, rfl⟩ := hv2.form0
            have Hu2 := Lib.hid hu2
            have Hv2 := Lib.hid hv2
            clear hu2 hv2
            go_region_held3 (fun w' => w'.cell? ⟨w8.heap.size, 0, none⟩ = some (.slice A8 k8 m8) ∧ w'.cell? ⟨w8.heap.size, 1, none⟩ = some (u64V all[q].key.seq) ∧ w'.cell? ⟨w8.heap.size, 2, none⟩ = some (byteV all[q].key.kind) ∧ w'.cell? ⟨w8.heap.size, 3, none⟩ = some (.slice C8 c8 d8) ∧ w'.cell? ⟨b1, o1 + q * 4, none⟩ = some (.slice A9 k9 m9) ∧ w'.cell? ⟨b1, o1 + q * 4 + 1, none⟩ = some (u64V all[q].key.seq) ∧ w'.cell? ⟨b1, o1 + q * 4 + 2, none⟩ = some (byteV all[q].key.kind) ∧ w'.cell? ⟨b1, o1 + q * 4 + 3, none⟩ = some (.slice C9 c9 d9)) (first | (exact ⟨hx9.cell t0' (fun f => f), hx9.cell t1' (fun f => f), hx9.cell t2' (fun f => f), hx9.cell t3' (fun f => f), hx9.cell g0 (fun f => f), hx9.cell g1 (fun f => f), hx9.cell g2 (fun f => f), hx9.cell g3 (fun f => f)⟩) | go_keep) (first | (go_at_call 36; refine (r3_sameEntry _ all[q] all[q] (Hb8.out.drewN _) (Hu2.out.drewN _) (Hc8.out.drewN _) (Hv2.out.drewN _)).mono ?_; rintro r w9 ⟨rfl, hx9⟩))
            go_wp2
            go_roundw
            case rel => exact ⟨q + 1 + 1, by omega, by go_num, by refine Out.trans ?_ hx9; repeat' (first | exact hx58.out | refine Out.drew ?_ | refine Out.drewN ?_ _)⟩
            case measure => simp [intOf]; omega
        · go_wp2
          go_ret
          exact ⟨rfl, hR4.out.ext.ext hx5⟩
end Go.Proofs.Yteaanagljmcidaa

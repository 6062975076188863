/- law08: SkipTwice. -/
import Derived.Test.YteaanagljmcidaaLawIns
import Derived.Test.YteaanagljmcidaaSame
namespace Go.Proofs.Yteaanagljmcidaa
open Go.RowKit

attribute [local go_sem ↓] Go.wp_at_zero Go.wp_at_succ

/-- A version that is there. -/
theorem insR_there {m : List (Ent × Nat)} {e : Ent} {h : Int} (hc : icheck e.key = 0) (h1 : 1 ≤ h) (h8 : h ≤ 8) (hl : e.value.length ≤ 512) (he : ∃ x ∈ m, x.1.key = e.key) : insR m e h = 7 := by
  unfold insR
  rw [if_neg (by simpa using hc), if_neg (by omega), if_neg (by omega), if_pos he]

/-- Insert, where the version is there: nothing has changed. -/
theorem sk_insertThere {w : World} {Foot F : Nat → Prop} {L : Nat} {m : List (Ent × Nat)} {e : Ent} {u x : Value} (h : SkM w Foot L m) (hF' : ∀ b, F b → b < w.heap.size) (hu : Bs w F u e.key.user) (hx : Bs w F x e.value) (ht : Int)
    (hc : icheck e.key = 0) (h1 : 1 ≤ ht) (h8 : ht ≤ 8) (hl : e.value.length ≤ 512) (he : ∃ y ∈ m, y.1.key = e.key) :
    Calls Try.prog 28 #[.pointer (some ⟨L, 0, none⟩), .agg #[u, u64V e.key.seq, byteV e.key.kind, x], .int .i64 ht] w fun r w' => r = .returned (.int .i64 7) ∧ Ext w w' := by
  obtain ⟨v, ts, ord, hS, hG, hM, hlen, hok⟩ := h
  have hS' : Sk w (fun b => Foot b ∧ b < w.heap.size) L v ts (sizeM m) := hS.mono fun b hb hf => ⟨hf, hb⟩
  have hex := key_in_model hG e.key
  rw [hM] at hex
  exact ins_exists hS' hG (fun b hb => hb.2) hF' hu hx ht hc h1 h8 hl (hex.2 he)

theorem step_append_sl {P : Program} {w : World} {ops : Array Oper} {o : Oper} {a : Act} {K : Act → World → Prop} {Q : Exit → Act → World → Prop} {E : Prop} (hgd : o.guard = none) (s x : Operand) (t : TypeId)
    (ho : o.op = .call { callee := .builtin .append, args := #[s, x], argTypes := #[t, t] })
    {α : Type} {c : Codec α} {e : TypeId} {bytes : Nat} (hf : Fits P t e c.size bytes) {B : Nat} {F : Nat → Prop} {v xv : Value} {l m : List α}
    (hown : Own c e w B F v l) (hs : a.eval s = v) (hB : B ≤ w.heap.size) {G : Nat → Prop} (hx : Sl c w G xv m) (hxv : a.eval x = xv)
    (hG : ∀ i (h : i < m.length) cs, c.rep w G cs m[i] → c.rep w (fun b => F b ∧ v.ownBlock ≠ some b) cs m[i]) (h63 : (l.length + m.length) * bytes ≤ 140737488355328) (hbp : 0 < bytes)
    (h : ∀ v' w', Own c e w' B F v' (l ++ m) → Out (fun k => v.ownBlock = some k) w w' → (v'.ownBlock = v.ownBlock ∨ v'.ownBlock = some w.heap.size) → K (a.put o.dst v') w') :
    if Region.wanted o (yielded ops a.tmps) = true then Oper.wp P o a w K Q else E := by
  rw [if_pos (by simp [Region.wanted, hgd])]
  obtain ⟨v', w', hr, h2, h3, h5⟩ := run_append_sl (P := P) (ty := o.type) hf hown hB hx hG h63 hbp
  unfold Oper.wp execOp
  simp only [ho, resolve, invoke, builtin, Sem.run_bind, Sem.run_pure, Result.andThen_ok, List.map_toArray, List.map_cons, List.map_nil, hs, hxv, hr]
  exact h v' w' h2 (Out.ofGrown h3) h5

theorem ht_range (n : Nat) : 1 ≤ IntKind.i64.wrap (1 + IntKind.i64.wrap ((n : Int).tmod 8)) ∧ IntKind.i64.wrap (1 + IntKind.i64.wrap ((n : Int).tmod 8)) ≤ 8 := by
  have e : (n : Int).tmod 8 = ((n % 8 : Nat) : Int) := rfl
  rw [e, IntKind.wrap_i64, IntKind.wrap_i64]; omega

set_option maxRecDepth 100000 in
set_option maxHeartbeats 2000000 in
theorem skipTwice_walk (w : World) {F G : Nat → Prop} {x y : Value} (l : List PutE) (hx : Sl putCA w F x l) (val : List UInt8) (hy : BsA w G y val) (h : UInt8) :
    Calls Try.prog 7 #[x, y, .int .u8 (h.toNat : Int)] w fun e w' => e = .returned (.bool true) ∧ Ext w w' := by
  obtain ⟨Y, c9, rfl, hy1, hy2, hy3, -⟩ := hy.form
  have hy5 : val.length ≤ 9223372036854775807 := hy3
  have Hy := Lib.hid hy
  have hh8 : h.toNat < 256 := h.toNat_lt
  clear hy hy2 hy3
  obtain ⟨A, N, n, rfl⟩ := hx.form0
  have Hx := Lib.hid hx
  clear hx
  go_enter Try.func7, Try.ntmps7
  go_wp2_with (first
    | (go_at_call 25; refine (law08_awake _).mono ?_; rintro r w1 ⟨rfl, hx1⟩)
    | (go_at_call 26; refine (sk_newM _).mono ?_; rintro r w2 ⟨L, rfl, hx2, hs2⟩)
    | (go_at_call 27; refine (law08_few _ l ((Hx.out.ext hx1).ext hx2)).mono ?_; rintro r w3 ⟨v3, rfl, hx3, hs3⟩; have hI := Lib.hid (InsRel.start hs2 hx2.size hx3 hs3); obtain ⟨A3, n3, rfl, -⟩ := hs3.form; have hlen3 := hI.out.few; clear hs2 hs3))
  generalize fewP l = fl at *
  go_loopw [20] (fun s18 wr => ∃ k : Nat, k ≤ fl.length ∧ s18 = .int .i64 k ∧ InsRel w2 w3 wr w1.heap.size L fl (.slice A3 fl.length n3) k) (fun s18 _ => fl.length - (intOf s18).toNat)
  case atStart => exact ⟨0, Nat.zero_le _, rfl, hI.out⟩
  case round =>
    obtain ⟨k, hk, rfl, hI⟩ := hrel
    by_cases hlt : k < fl.length
    · obtain ⟨b1, o1, u1, v1, rfl, -, c0, c1, c2, c3, c4, hu, hv, -, -⟩ := hI.sl.put k hlt
      obtain ⟨U, N1, n1, rfl⟩ := hu.form0
      obtain ⟨V, N2, n2, rfl⟩ := hv.form0
      have HI := Lib.hid (hI.step (Ext.alloc1 wr (.cells #[.slice U N1 n1, u64V fl[k].e.key.seq, byteV fl[k].e.key.kind, .slice V N2 n2, .int .i64 fl[k].h] 34)))
      have Hu := Lib.hid (hu.alloc (.cells #[.slice U N1 n1, u64V fl[k].e.key.seq, byteV fl[k].e.key.kind, .slice V N2 n2, .int .i64 fl[k].h] 34))
      have Hv := Lib.hid (hv.alloc (.cells #[.slice U N1 n1, u64V fl[k].e.key.seq, byteV fl[k].e.key.kind, .slice V N2 n2, .int .i64 fl[k].h] 34))
      obtain ⟨z0, z1, z2, z3, z4, -⟩ := cells5 (blk_new wr (.cells #[.slice U N1 n1, u64V fl[k].e.key.seq, byteV fl[k].e.key.kind, .slice V N2 n2, .int .i64 fl[k].h] 34))
      clear hI hu hv
      go_wp2_with (first | (go_at_call 28; refine (HI.out.call hlt Hu.out Hv.out).mono ?_; rintro r w4 ⟨⟨c, rfl⟩, hI4⟩))
      go_roundw
      case rel => exact ⟨k + 1, by omega, by go_num, hI4⟩
      case measure => simp [intOf]; omega
    · obtain rfl : k = fl.length := by omega
      have hR := Lib.hid (⟨hI.out.footp ((hx1.ext hx2).ext hx3) (by have := hx1.size; omega), hI.done⟩ : Rest w wr w1.heap.size w2.heap.size w3.heap.size L (insAll [] fl))
      clear hI
      have Hok := Lib.hid (okM_all fl)
      have hm60 := all_le fl hlen3
      generalize insAll [] fl = m at *
      obtain ⟨all, hallE⟩ : ∃ all, m.map (·.1) = all := ⟨_, rfl⟩
      have hl60 : all.length ≤ 60 := by rw [← hallE, List.length_map]; exact hm60
      have hAll : ∀ w', SkM w' (FootP w1.heap.size w2.heap.size w3.heap.size) L m → Calls Try.prog 33 #[.pointer (some ⟨L, 0, none⟩)] w' (Owned entC 32 w' all) := fun w' h => hallE ▸ sk_allM h
      have hFrom : ∀ (k : Key) (w' : World) (F : Nat → Prop) (u : Value), SkM w' (FootP w1.heap.size w2.heap.size w3.heap.size) L m → (∀ b, F b → b < w'.heap.size) → Bs w' F u k.user → Calls Try.prog 35 #[.pointer (some ⟨L, 0, none⟩), .agg #[u, u64V k.seq, byteV k.kind]] w' (Told w' (fromE all k)) := fun k w' F u h1 h2 h3 => hallE ▸ sk_fromM w' h1 h2 h3
      have hBefore : ∀ (k : Key) (w' : World) (F : Nat → Prop) (u : Value), SkM w' (FootP w1.heap.size w2.heap.size w3.heap.size) L m → (∀ b, F b → b < w'.heap.size) → Bs w' F u k.user → Calls Try.prog 37 #[.pointer (some ⟨L, 0, none⟩), .agg #[u, u64V k.seq, byteV k.kind]] w' (Told w' (beforeE all k)) := fun k w' F u h1 h2 h3 => hallE ▸ sk_beforeM w' h1 h2 h3
      have HAll := Lib.hid hAll
      have HFrom := Lib.hid hFrom
      have HBefore := Lib.hid hBefore
      have HallE := Lib.hid hallE
      clear hAll hFrom hBefore hallE
      go_wp2_with (first
        | (go_at_call 33; refine (HAll.out _ hR.out.sk).mono ?_; rintro r w4 ⟨v4, rfl, hx4, ho4⟩; have hR4 := Lib.hid (hR.out.step hx4); have hsl4 := Lib.hid (Owned.ents ho4 (by omega)); obtain ⟨A4, n4, rfl, -⟩ := hsl4.out.form; clear hR ho4)
        | (go_at_call 34; refine (sk_sizeM _ hR4.out.sk).mono ?_; rintro r w5 ⟨rfl, rfl⟩))
      have hmem : ∀ i (h : i < all.length), icheck all[i].key = 0 ∧ ∃ y ∈ m, y.1.key = all[i].key := fun i h => by
        have h2 : all[i] ∈ m.map (·.1) := by rw [HallE.out]; exact List.getElem_mem h
        obtain ⟨z, hz, he⟩ := List.mem_map.1 h2
        have he' : z.1.key = all[i].key := congrArg Ent.key he
        exact ⟨by rw [← he']; exact (Hok.out _ hz).1, z, hz, he'⟩
      have Hmem := Lib.hid hmem
      have hsz0 := (sizeM_range Hok.out).1
      have hsz1 := (sizeM_range Hok.out).2
      clear hmem
      generalize hszE : sizeM m = sz at *
      have HszE := Lib.hid hszE
      clear hszE
      go_loopw [37] (fun s37 wr => ∃ i : Nat, i ≤ all.length ∧ s37 = .int .i64 i ∧ Ext w4 wr) (fun s37 _ => all.length - (intOf s37).toNat)
      case atStart => exact ⟨0, Nat.zero_le _, rfl, Out.refl _ _⟩
      case round =>
        obtain ⟨i, hi, rfl, hx5⟩ := hrel
        have Hx5 := Lib.hid hx5
        by_cases hlt : i < all.length
        · obtain ⟨hm1, hm2⟩ := Hmem.out i hlt
          have Hm1 := Lib.hid hm1
          have Hm2 := Lib.hid hm2
          obtain ⟨b1, o1, u1, v1, hA1, -, c0, c1, c2, c3, hu, hv⟩ := (hsl4.out.ext hx5).ent i hlt
          subst hA1
          obtain ⟨U, N1, n1, rfl⟩ := hu.form0
          obtain ⟨V, N2, n2, rfl⟩ := hv.form0
          have hz := blk_new wr (.cells #[.slice U N1 n1, u64V all[i].key.seq, byteV all[i].key.kind, .slice V N2 n2] 32)
          obtain ⟨z0, z1, z2, z3, -⟩ := cells4 hz
          have Hz := Lib.hid hz
          have Hu := Lib.hid ((hu.alloc (.cells #[.slice U N1 n1, u64V all[i].key.seq, byteV all[i].key.kind, .slice V N2 n2] 32)).below (by decide))
          have hR5 := Lib.hid ((hR4.out.step hx5).step (Ext.alloc1 wr (.cells #[.slice U N1 n1, u64V all[i].key.seq, byteV all[i].key.kind, .slice V N2 n2] 32)))
          clear hu hv hz hx5 hm1 hm2
          go_wp2
          have Hy5 := Lib.hid (Hy.out.ext (hR4.out.ext.ext Hx5.out))
          have hht := ht_range h.toNat
          have Hht := Lib.hid hht
          clear hht
          have hu5' := Own.empty byteC 5 (wr.alloc (.cells #[.slice U N1 n1, u64V all[i].key.seq, byteV all[i].key.kind, .slice V N2 n2] 32)) (fun _ => True)
          rw [World.size_alloc] at hu5'
          have hu5 := Lib.hid hu5'
          clear hu5'
          by_cases hv100 : 100 < val.length
          · have hi1 : 100 < (val.length : Int) := by omega
            have hi2 : (100 : Int) ≤ (c9 : Int) := by omega
            have hi3 : (100 : Int) ≤ (c9 : Nat) := by omega
            have hle : (val.take 100).length = 100 := List.length_take_of_le (by omega)
            have Hle := Lib.hid hle
            clear hle
            go_region_law (first | (refine step_append_sl (by rfl) (.tmp 44) (.tmp 49) 27 (by rfl) fits5 (hu5.out.ext (by repeat' (first | exact Out.refl _ _ | refine Out.drew ?_))) (by rfl) (by simp) ((Sl.ofA (Hy5.out.take 100 (by omega)) (by rw [Hle.out]; decide)).ext (by repeat' (first | exact Out.refl _ _ | refine Out.drew ?_ | refine Out.alloc ?_ _))) (by rfl) (fun _ _ _ h => h) (by rw [Hle.out]; decide) (by decide) ?_; intro v7 w7 g1 g2 g3; rw [List.nil_append] at g1; obtain ⟨A7, k7, m7, rfl⟩ := g1.form0; have HX : Hid (Ext (wr.alloc (.cells #[.slice U N1 n1, u64V all[i].key.seq, byteV all[i].key.kind, .slice V N2 n2] 32)) w7) := Lib.hid (((Ext.alloc1 _ _).drew).then g2 (fun i hi e => by simp [Value.ownBlock] at e hi; omega)); have HU := Lib.hid ((Hu.out.ext HX.out).mono (G := fun b => b < w7.heap.size) (fun _ _ hl => hl) (.inl (by decide))); have HV := Lib.hid (g1.sl (G := fun b => b < w7.heap.size) (by decide) (by show _ ≤ 140737488355328; rw [Hle.out]; decide) (fun _ _ hl => hl) (fun _ _ hl => hl)); obtain ⟨y0, y1, y2, y3, -⟩ := cells4 (HX.out.blk Hz.out (fun f => f)); clear g1 g2 g3) | (go_simp; go_at_call 28; refine (sk_insertThere (e := ⟨all[i].key, val.take 100⟩) (F := fun b => b < w7.heap.size) (hR5.out.sk.ext HX.out) (fun b hb => hb) HU.out HV.out _ Hm1.out Hht.out.1 Hht.out.2 (by show (val.take 100).length ≤ 512; rw [Hle.out]; decide) Hm2.out).mono ?_; rintro r w8 ⟨rfl, hx8⟩) | fail)
            all_goals
              go_wp2
              go_roundw
              case rel => exact ⟨i + 1, by omega, by go_num, ((Hx5.out.alloc _).trans HX.out).ext hx8⟩
              case measure => simp [intOf]; omega
          · have hi1 : ¬ (100 < (val.length : Int)) := by omega
            have hle : (val.take val.length).length = val.length := by rw [List.take_length]
            have hv1 : val.length ≤ 100 := by omega
            have Hle := Lib.hid hle
            clear hle
            go_region_law (first | (refine step_append_sl (by rfl) (.tmp 44) (.tmp 49) 27 (by rfl) fits5 (hu5.out.ext (by repeat' (first | exact Out.refl _ _ | refine Out.drew ?_))) (by rfl) (by simp) ((Sl.ofA (Hy5.out.take val.length (by omega)) (by rw [Hle.out]; unfold big; omega)).ext (by repeat' (first | exact Out.refl _ _ | refine Out.drew ?_ | refine Out.alloc ?_ _))) (by rfl) (fun _ _ _ h => h) (by rw [Hle.out]; simp; omega) (by decide) ?_; intro v7 w7 g1 g2 g3; rw [List.nil_append] at g1; obtain ⟨A7, k7, m7, rfl⟩ := g1.form0; have HX : Hid (Ext (wr.alloc (.cells #[.slice U N1 n1, u64V all[i].key.seq, byteV all[i].key.kind, .slice V N2 n2] 32)) w7) := Lib.hid (((Ext.alloc1 _ _).drew).then g2 (fun i hi e => by simp [Value.ownBlock] at e hi; omega)); have HU := Lib.hid ((Hu.out.ext HX.out).mono (G := fun b => b < w7.heap.size) (fun _ _ hl => hl) (.inl (by decide))); have HV := Lib.hid (g1.sl (G := fun b => b < w7.heap.size) (by decide) (by show _ ≤ 140737488355328; rw [Hle.out]; omega) (fun _ _ hl => hl) (fun _ _ hl => hl)); obtain ⟨y0, y1, y2, y3, -⟩ := cells4 (HX.out.blk Hz.out (fun f => f)); clear g1 g2 g3) | (go_simp; go_at_call 28; refine (sk_insertThere (e := ⟨all[i].key, val.take val.length⟩) (F := fun b => b < w7.heap.size) (hR5.out.sk.ext HX.out) (fun b hb => hb) HU.out HV.out _ Hm1.out Hht.out.1 Hht.out.2 (by show (val.take val.length).length ≤ 512; rw [Hle.out]; omega) Hm2.out).mono ?_; rintro r w8 ⟨rfl, hx8⟩) | fail)
            all_goals
              go_wp2
              go_roundw
              case rel => exact ⟨i + 1, by omega, by go_num, ((Hx5.out.alloc _).trans HX.out).ext hx8⟩
              case measure => simp [intOf]; omega
        · have hde : decide (all = all) = true := decide_eq_true rfl
          go_wp2_with (first
            | (go_at_call 33; refine (HAll.out _ (hR4.out.step Hx5.out).sk).mono ?_; rintro r w6 ⟨v6, rfl, hx6, ho6⟩; have hsl6 := Lib.hid (Owned.ents ho6 (by omega)); obtain ⟨A6, n6, rfl, -⟩ := hsl6.out.form; clear ho6)
            | (go_at_call 32; refine (r3_sameEntries _ _ _ hsl6.out ((hsl4.out.ext Hx5.out).ext hx6)).mono ?_; rintro r w7 ⟨rfl, hx7⟩)
            | (go_at_call 34; refine (sk_sizeM _ (((hR4.out.step Hx5.out).step hx6).step hx7).sk).mono ?_; rw [HszE.out]; rintro r w8 ⟨rfl, rfl⟩))
          go_ret
          exact ⟨rfl, (((hR4.out.step Hx5.out).step hx6).step hx7).ext⟩
end Go.Proofs.Yteaanagljmcidaa

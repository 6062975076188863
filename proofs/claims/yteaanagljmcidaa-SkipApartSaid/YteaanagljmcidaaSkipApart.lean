/- law08: SkipApart. -/
import Derived.Test.YteaanagljmcidaaLawIns
import Derived.Test.YteaanagljmcidaaSame
import Derived.Test.YteaanagljmcidaaPoke
namespace Go.Proofs.Yteaanagljmcidaa
open Go.RowKit

attribute [local go_sem ↓] Go.wp_at_zero Go.wp_at_succ

/-- What lies below D has stayed. -/
abbrev Up (D : Nat) (w w' : World) : Prop := Out (fun b => D ≤ b) w w'

/-- While bytes are written over: an entry's box at b8, what From told at b9; the list's row is R. -/
structure ApR (w5 wr : World) (R b8 b9 : Nat) (o8 o9 : Obj) (v6 : Value) (N : Nat) (vv : Value) (nv : Nat) (uu : Value) (nu : Nat) : Prop where
  up : Up w5.heap.size w5 wr
  own : ∃ l' : List Ent, l'.length = N ∧ Own entC 32 wr w5.heap.size (fun b => w5.heap.size ≤ b) v6 l'
  row : v6.ownBlock = some R
  hR : R < b8
  h5 : w5.heap.size ≤ b8
  h89 : b8 < b9
  z8 : wr.heap[b8]? = some o8
  z9 : wr.heap[b9]? = some o9
  bv : BsN wr (fun b => b8 < b ∧ b < b9) vv nv
  bu : BsN wr (fun b => w5.heap.size ≤ b ∧ b ≠ R ∧ b < b8) uu nu

theorem ApR.poke {w5 wr : World} {R b8 b9 : Nat} {o8 o9 : Obj} {v6 : Value} {N : Nat} {vv : Value} {nv : Nat} {uu : Value} {nu : Nat} (h : ApR w5 wr R b8 b9 o8 o9 v6 N vv nv uu nu) {p : Addr} {x : UInt8} (hp : wr.cell? p = some (byteV x)) (y : UInt8)
    (hb : (b8 < p.block ∧ p.block < b9) ∨ (w5.heap.size ≤ p.block ∧ p.block ≠ R ∧ p.block < b8)) : ApR w5 (wr.setCell p (byteV y)) R b8 b9 o8 o9 v6 N vv nv uu nu := by
  have g1 := h.hR
  have g2 := h.h5
  have g3 := h.h89
  obtain ⟨l', h1, h2⟩ := h.own
  obtain ⟨l2, h3, h4⟩ := h2.pokeE hp (by rw [h.row]; intro e; injection e; omega) y
  exact { h with
    up := h.up.setCell (fun _ => by omega) _
    own := ⟨l2, by omega, h4⟩
    z8 := blk_far h.z8 (by omega) _
    z9 := blk_far h.z9 (by omega) _
    bv := h.bv.poke hp y
    bu := h.bu.poke hp y }

/-- The same of a key's box. -/
structure ApK (w5 wr : World) (D9 R b8 : Nat) (o8 : Obj) (v6 : Value) (N : Nat) (uu : Value) (nu : Nat) : Prop where
  up : Up w5.heap.size w5 wr
  own : ∃ l' : List Key, l'.length = N ∧ Own keyC 30 wr D9 (fun b => D9 ≤ b) v6 l'
  row : v6.ownBlock = some R
  hR : R < b8
  h5 : w5.heap.size ≤ D9
  z8 : wr.heap[b8]? = some o8
  bu : BsN wr (fun b => D9 ≤ b ∧ b ≠ R ∧ b < b8) uu nu

theorem ApK.poke {w5 wr : World} {D9 R b8 : Nat} {o8 : Obj} {v6 : Value} {N : Nat} {uu : Value} {nu : Nat} (h : ApK w5 wr D9 R b8 o8 v6 N uu nu) {p : Addr} {x : UInt8} (hp : wr.cell? p = some (byteV x)) (y : UInt8)
    (hb : D9 ≤ p.block ∧ p.block ≠ R ∧ p.block < b8) : ApK w5 (wr.setCell p (byteV y)) D9 R b8 o8 v6 N uu nu := by
  have g1 := h.hR
  have g2 := h.h5
  obtain ⟨l', h1, h2⟩ := h.own
  obtain ⟨l2, h3, h4⟩ := h2.pokeK hp (by rw [h.row]; intro e; injection e; omega) y
  exact { h with
    up := h.up.setCell (fun _ => by omega) _
    own := ⟨l2, by omega, h4⟩
    z8 := blk_far h.z8 (by omega) _
    bu := h.bu.poke hp y }

set_option maxRecDepth 100000 in
set_option maxHeartbeats 2000000 in
theorem skipApart_walk (w : World) {F : Nat → Prop} {x : Value} (l : List PutE) (hx : Sl putCA w F x l) :
    Calls Try.prog 6 #[x] w fun e w' => e = .returned (.bool true) ∧ Ext w w' := by
  obtain ⟨A, N, n, rfl⟩ := hx.form0
  have Hx := Lib.hid hx
  clear hx
  go_enter Try.func6, Try.ntmps6
  go_wp2_with (first
    | (go_at_call 25; refine (law08_awake _).mono ?_; rintro r w1 ⟨rfl, hx1⟩)
    | (go_at_call 26; refine (sk_newM _).mono ?_; rintro r w2 ⟨L, rfl, hx2, hs2⟩)
    | (go_at_call 27; refine (law08_few _ l ((Hx.out.ext hx1).ext hx2)).mono ?_; rintro r w3 ⟨v3, rfl, hx3, hs3⟩; have hI := Lib.hid (InsRel.start hs2 hx2.size hx3 hs3); obtain ⟨A3, n3, rfl, -⟩ := hs3.form; have hlen3 := hI.out.few; clear hs2 hs3))
  generalize fewP l = fl at *
  go_loopw [22] (fun s18 wr => ∃ k : Nat, k ≤ fl.length ∧ s18 = .int .i64 k ∧ InsRel w2 w3 wr w1.heap.size L fl (.slice A3 fl.length n3) k) (fun s18 _ => fl.length - (intOf s18).toNat)
  case atStart => exact ⟨0, Nat.zero_le _, rfl, hI.out⟩
  case round =>
    obtain ⟨k, hk, rfl, hI⟩ := hrel
    by_cases hlt : k < fl.length
    · obtain ⟨b1, o1, u1, v1, rfl, -, c0, c1, c2, c3, c4, hu, hv, -, -⟩ := hI.sl.put k hlt
      obtain ⟨U, N1, n1, rfl⟩ := hu.form0
      obtain ⟨V, N2, n2, rfl⟩ := hv.form0
      have HI := Lib.hid (hI.step (Ext.alloc1 wr (.cells #[.slice U N1 n1, u64V fl[k].e.key.seq, byteV fl[k].e.key.kind, .slice V N2 n2, .int .i64 fl[k].h] 34)))
      have Hu := Lib.hid (hu.alloc (.cells #[.slice U N1 n1, u64V fl[k].e.key.seq, byteV fl[k].e.key.kind, .slice V N2 n2, .int .i64 fl[k].h] 34))
      have Hv := Lib.hid (hv.alloc (.cells #[.slice U N1 n1, u64V fl[k].e.key.seq, byteV fl[k].e.key.kind, .slice V N2 n2, .int .i64 fl[k].h] 34))
      obtain ⟨z0, z1, z2, z3, z4, -⟩ := cells5 (blk_new wr (.cells #[.slice U N1 n1, u64V fl[k].e.key.seq, byteV fl[k].e.key.kind, .slice V N2 n2, .int .i64 fl[k].h] 34))
      clear hI hu hv
      go_wp2_with (first | (go_at_call 28; refine (HI.out.call hlt Hu.out Hv.out).mono ?_; rintro r w4 ⟨⟨c, rfl⟩, hI4⟩))
      go_roundw
      case rel => exact ⟨k + 1, by omega, by go_num, hI4⟩
      case measure => simp [intOf]; omega
    · obtain rfl : k = fl.length := by omega
      have hR := Lib.hid (⟨hI.out.footp ((hx1.ext hx2).ext hx3) (by have := hx1.size; omega), hI.done⟩ : Rest w wr w1.heap.size w2.heap.size w3.heap.size L (insAll [] fl))
      clear hI
      have Hok := Lib.hid (okM_all fl)
      have hm60 := all_le fl hlen3
      generalize insAll [] fl = m at *
      obtain ⟨all, hallE⟩ : ∃ all, m.map (·.1) = all := ⟨_, rfl⟩
      have hl60 : all.length ≤ 60 := by rw [← hallE, List.length_map]; exact hm60
      have hAll : ∀ w', SkM w' (FootP w1.heap.size w2.heap.size w3.heap.size) L m → Calls Try.prog 33 #[.pointer (some ⟨L, 0, none⟩)] w' (Owned entC 32 w' all) := fun w' h => hallE ▸ sk_allM h
      have hFrom : ∀ (k : Key) (w' : World) (F : Nat → Prop) (u : Value), SkM w' (FootP w1.heap.size w2.heap.size w3.heap.size) L m → (∀ b, F b → b < w'.heap.size) → Bs w' F u k.user → Calls Try.prog 35 #[.pointer (some ⟨L, 0, none⟩), .agg #[u, u64V k.seq, byteV k.kind]] w' (Told w' (fromE all k)) := fun k w' F u h1 h2 h3 => hallE ▸ sk_fromM w' h1 h2 h3
      have hBefore : ∀ (k : Key) (w' : World) (F : Nat → Prop) (u : Value), SkM w' (FootP w1.heap.size w2.heap.size w3.heap.size) L m → (∀ b, F b → b < w'.heap.size) → Bs w' F u k.user → Calls Try.prog 37 #[.pointer (some ⟨L, 0, none⟩), .agg #[u, u64V k.seq, byteV k.kind]] w' (Told w' (beforeE all k)) := fun k w' F u h1 h2 h3 => hallE ▸ sk_beforeM w' h1 h2 h3
      have HAll := Lib.hid hAll
      have HFrom := Lib.hid hFrom
      have HBefore := Lib.hid hBefore
      have HallE := Lib.hid hallE
      clear hAll hFrom hBefore hallE
      go_wp2_with (first
        | (have hh := hR; clear hh; go_at_call 33; refine (HAll.out _ hR.out.sk).mono ?_; rintro r w4 ⟨v4, rfl, hx4, ho4⟩; have hR4 := Lib.hid (hR.out.step hx4); have hsl4 := Lib.hid (Owned.ents ho4 (by omega)); obtain ⟨A4, n4, rfl, -⟩ := hsl4.out.form; clear hR ho4)
        | (go_at_call 38; refine (r3_twins _ _ hsl4.out (by omega)).mono ?_; rintro r w5 ⟨v5, rfl, hx5, ho5⟩; have hR5 := Lib.hid (hR4.out.step hx5); have hsl5 := Lib.hid (ho5.below (by decide)); obtain ⟨A5, n5, rfl, -⟩ := hsl5.out.form; clear hR4 ho5 hsl4)
        | (go_at_call 33; refine (HAll.out _ hR5.out.sk).mono ?_; rintro r w6 ⟨v6, rfl, hx6, ho6⟩; have hR6 := Lib.hid (hR5.out.step hx6); have hown6 := Lib.hid ho6; obtain ⟨A6, n6, rfl, -⟩ := ho6.form; clear ho6))
      have hSk5 := Lib.hid (hR5.out.sk.mono (G := fun b => FootP w1.heap.size w2.heap.size w3.heap.size b ∧ b < w5.heap.size) (fun b hb hf => ⟨hf, hb⟩))
      have hE5 := Lib.hid hR5.out.ext
      have hx56 := Lib.hid hx6
      have hm61 := hm60
      clear hR5 hR6 hx6 hm60
      go_loopw [39] (fun s39 wr => ∃ i : Nat, i ≤ all.length ∧ s39 = .int .i64 i ∧ Up w5.heap.size w5 wr ∧ ∃ l' : List Ent, l'.length = all.length ∧ Own entC 32 wr w5.heap.size (fun b => w5.heap.size ≤ b) (.slice A6 all.length n6) l') (fun s39 _ => all.length - (intOf s39).toNat)
      case atStart => exact ⟨0, Nat.zero_le _, rfl, hx56.out.out _, all, rfl, hown6.out⟩
      case round =>
        obtain ⟨i, hi, rfl, hup, l', hl', hown⟩ := hrel
        by_cases hlt : i < all.length
        · obtain ⟨R, cap, ux, vx, hv6, hR1, hR2, c0, c1, c2, c3, hu, hv⟩ := hown.entAt i (by omega)
          injection hv6 with e1 e2 e3
          subst e1
          generalize l'[i] = e at *
          have Hl' := Lib.hid hl'
          clear e2 e3 hl'
          obtain ⟨U, c7, rfl, -⟩ := hu.form
          obtain ⟨V, N2, n2, rfl⟩ := hv.form0
          have hz := blk_new wr (.cells #[.slice U e.key.user.length c7, u64V e.key.seq, byteV e.key.kind, .slice V N2 n2] 32)
          obtain ⟨z0, z1, z2, z3, -⟩ := cells4 hz
          have Hz := Lib.hid hz
          have Hsk := Lib.hid (((hSk5.out.frame hup (fun b _ hb hd => by omega)).mono (fun b _ hb => hb.1)).ext (Ext.alloc1 wr (.cells #[.slice U e.key.user.length c7, u64V e.key.seq, byteV e.key.kind, .slice V N2 n2] 32)))
          have Hu := Lib.hid ((hu.below (by decide)).alloc (.cells #[.slice U e.key.user.length c7, u64V e.key.seq, byteV e.key.kind, .slice V N2 n2] 32))
          have Hup := Lib.hid hup
          have Hown := Lib.hid hown
          have hul : e.key.user.length ≤ 140737488355328 := by obtain ⟨_, _, _, _, _, h7, _⟩ := hu; exact h7
          have hup5 := hup.size
          clear hu hv hz hup hown
          go_wp2_with (first | (go_at_call 35; refine (HFrom.out e.key _ (fun b => ((w5.heap.size ≤ b ∧ b ≠ R) ∧ b < wr.heap.size)) _ Hsk.out (fun b hb => by have := hb.2; simp; omega) Hu.out).mono ?_; generalize fromE all e.key = ob; rintro r w7 ⟨u7, v7, rfl, hx7, hb7, hc7⟩; generalize ob.getD zeroE = E7 at *; generalize ob.isSome = bb at *; obtain ⟨A7, k7, m7, rfl⟩ := hb7.form0; obtain ⟨C7, d7, rfl, -⟩ := hc7.form))
          have hvl : E7.value.length ≤ 140737488355328 := by obtain ⟨_, _, _, _, _, h7, _⟩ := hc7; exact h7
          have hA : ApR w5 (w7.alloc (.cells #[.slice A7 k7 m7, u64V E7.key.seq, byteV E7.key.kind, .slice C7 E7.value.length d7] 32)) R wr.heap.size w7.heap.size (.cells #[.slice U e.key.user.length c7, u64V e.key.seq, byteV e.key.kind, .slice V N2 n2] 32) (.cells #[.slice A7 k7 m7, u64V E7.key.seq, byteV E7.key.kind, .slice C7 E7.value.length d7] 32) (.slice (some ⟨R, 0, none⟩) all.length n6) all.length (.slice C7 E7.value.length d7) E7.value.length (.slice U e.key.user.length c7) e.key.user.length :=
            { up := ((Hup.out.alloc _).ext hx7).alloc _
              own := ⟨l', Hl'.out, ((Hown.out.ext (Ext.alloc1 _ _)).ext hx7).ext (Ext.alloc1 _ _)⟩
              row := rfl
              hR := hR2
              h5 := hup5
              h89 := by have := hx7.size; simp at this; omega
              z8 := blk_alloc (hx7.blk Hz.out (fun f => f)) _
              z9 := blk_new _ _
              bv := ⟨E7.value, rfl, ((hc7.below (by decide)).mono (fun b hb _ => by simp at hb; omega) (.inl (by decide))).alloc _⟩
              bu := ⟨e.key.user, rfl, (((Hu.out.mono (fun b hb _ => ⟨hb.1.1, hb.1.2, hb.2⟩) (.inl (by decide))).ext hx7).alloc _)⟩ }
          have HA := Lib.hid hA
          clear hA hb7 hc7 hx7 Hu Hsk Hz Hown Hup z0 z1 z2 z3 c0 c1 c2 c3
          generalize wr.heap.size = b8 at *
          generalize w7.heap.size = b9 at *
          go_loopw [53] (fun s53 wq => ∃ j : Nat, j ≤ E7.value.length ∧ s53 = .int .i64 j ∧ ApR w5 wq R b8 b9 (.cells #[.slice U e.key.user.length c7, u64V e.key.seq, byteV e.key.kind, .slice V N2 n2] 32) (.cells #[.slice A7 k7 m7, u64V E7.key.seq, byteV E7.key.kind, .slice C7 E7.value.length d7] 32) (.slice (some ⟨R, 0, none⟩) all.length n6) all.length (.slice C7 E7.value.length d7) E7.value.length (.slice U e.key.user.length c7) e.key.user.length) (fun s53 _ => E7.value.length - (intOf s53).toNat)
          case atStart => exact ⟨0, Nat.zero_le _, rfl, HA.out⟩
          case round =>
            obtain ⟨j, hj, rfl, hAj⟩ := hrel
            by_cases hlt2 : j < E7.value.length
            · obtain ⟨b, off, x, hC, hF, hc, hfz⟩ := hAj.bv.at_ j hlt2
              subst hC
              obtain ⟨y0, y1, y2, y3, -⟩ := cells4 hAj.z9
              have hfl := flip_u8 x
              have Hp := Lib.hid (hAj.poke hc (x ^^^ 1) (.inl hF))
              clear hAj
              go_wp2
              go_roundw
              case rel => exact ⟨j + 1, by omega, by go_num, Hp.out⟩
              case measure => simp [intOf]; omega
            · obtain ⟨y0, y1, y2, y3, -⟩ := cells4 hAj.z8
              have HAj := Lib.hid hAj
              clear hAj
              go_wp2
              go_loopw [68] (fun s68 wq => ∃ j : Nat, j ≤ e.key.user.length ∧ s68 = .int .i64 j ∧ ApR w5 wq R b8 b9 (.cells #[.slice U e.key.user.length c7, u64V e.key.seq, byteV e.key.kind, .slice V N2 n2] 32) (.cells #[.slice A7 k7 m7, u64V E7.key.seq, byteV E7.key.kind, .slice C7 E7.value.length d7] 32) (.slice (some ⟨R, 0, none⟩) all.length n6) all.length (.slice C7 E7.value.length d7) E7.value.length (.slice U e.key.user.length c7) e.key.user.length) (fun s68 _ => e.key.user.length - (intOf s68).toNat)
              case atStart => exact ⟨0, Nat.zero_le _, rfl, HAj.out⟩
              case round =>
                obtain ⟨j2, hj2, rfl, hAj2⟩ := hrel
                by_cases hlt3 : j2 < e.key.user.length
                · obtain ⟨b, off, x, hC, hF, hc, hfz⟩ := hAj2.bu.at_ j2 hlt3
                  subst hC
                  obtain ⟨q0, q1, q2, q3, -⟩ := cells4 hAj2.z8
                  have hfl := flip_u8 x
                  have Hp := Lib.hid (hAj2.poke hc (x ^^^ 1) (.inr hF))
                  clear hAj2
                  go_wp2
                  go_roundw
                  case rel => exact ⟨j2 + 1, by omega, by go_num, Hp.out⟩
                  case measure => simp [intOf]; omega
                · go_wp2
                  go_roundw
                  case rel => exact ⟨i + 1, by omega, by go_num, hAj2.up, hAj2.own⟩
                  case measure => simp [intOf]; omega
        · have hok := rowM_le m 1
          have Hsk := Lib.hid ((hSk5.out.frame hup (fun b _ hb hd => by omega)).mono (fun b _ hb => hb.1))
          have hml := hm61
          have Hup := Lib.hid hup
          have hup5 := hup.size
          clear hup hown
          go_wp2_with (first | (go_at_call 29; refine (sk_rowI Hsk.out 0 (by decide) 1 rfl (rowM m 1) rfl).mono ?_; rintro r w9 ⟨v9, rfl, hx9, ho9⟩; obtain ⟨A9, n9, rfl, -⟩ := ho9.form))
          have hrl : (rowM m 1).length ≤ 60 := by omega
          generalize rowM m 1 = row at *
          have Hup9 := Lib.hid (Hup.out.ext hx9)
          have Ho9 := Lib.hid ho9
          clear hx9 ho9 Hup Hsk hok
          generalize wr.heap.size = D9 at *
          go_loopw [84] (fun s84 wr => ∃ i : Nat, i ≤ row.length ∧ s84 = .int .i64 i ∧ Up w5.heap.size w5 wr ∧ ∃ l' : List Key, l'.length = row.length ∧ Own keyC 30 wr D9 (fun b => D9 ≤ b) (.slice A9 row.length n9) l') (fun s84 _ => row.length - (intOf s84).toNat)
          case atStart => exact ⟨0, Nat.zero_le _, rfl, Hup9.out, row, rfl, Ho9.out⟩
          case round =>
            obtain ⟨i9, hi9, rfl, hup, l', hl', hown⟩ := hrel
            by_cases hlt9 : i9 < row.length
            · obtain ⟨R, cap, ux, hv6, hR1, hR2, c0, c1, c2, hu⟩ := hown.keyAt i9 (by omega)
              injection hv6 with e1 e2 e3
              subst e1
              generalize l'[i9] = k at *
              have Hl' := Lib.hid hl'
              clear e2 e3 hl'
              obtain ⟨U, c7, rfl, -⟩ := hu.form
              have hz := blk_new wr (.cells #[.slice U k.user.length c7, u64V k.seq, byteV k.kind] 30)
              obtain ⟨z0, z1, z2, -⟩ := cells3 hz
              have hul : k.user.length ≤ 140737488355328 := by obtain ⟨_, _, _, _, _, h7, _⟩ := hu; exact h7
              have hA : ApK w5 (wr.alloc (.cells #[.slice U k.user.length c7, u64V k.seq, byteV k.kind] 30)) D9 R wr.heap.size (.cells #[.slice U k.user.length c7, u64V k.seq, byteV k.kind] 30) (.slice (some ⟨R, 0, none⟩) row.length n9) row.length (.slice U k.user.length c7) k.user.length :=
                { up := hup.alloc _
                  own := ⟨l', Hl'.out, hown.ext (Ext.alloc1 _ _)⟩
                  row := rfl
                  hR := hR2
                  h5 := hup5
                  z8 := hz
                  bu := ⟨k.user, rfl, ((hu.below (by decide)).mono (fun b hb _ => ⟨hb.1.1, hb.1.2, hb.2⟩) (.inl (by decide))).alloc _⟩ }
              have HA := Lib.hid hA
              clear hA hz hu hup hown
              go_wp2
              generalize wr.heap.size = b8 at *
              go_loopw [91] (fun s91 wq => ∃ j : Nat, j ≤ k.user.length ∧ s91 = .int .i64 j ∧ ApK w5 wq D9 R b8 (.cells #[.slice U k.user.length c7, u64V k.seq, byteV k.kind] 30) (.slice (some ⟨R, 0, none⟩) row.length n9) row.length (.slice U k.user.length c7) k.user.length) (fun s91 _ => k.user.length - (intOf s91).toNat)
              case atStart => exact ⟨0, Nat.zero_le _, rfl, HA.out⟩
              case round =>
                obtain ⟨j, hj, rfl, hAj⟩ := hrel
                by_cases hlt2 : j < k.user.length
                · obtain ⟨b, off, x, hC, hF, hc, hfz⟩ := hAj.bu.at_ j hlt2
                  subst hC
                  obtain ⟨y0, y1, y2, -⟩ := cells3 hAj.z8
                  have hfl := flip_u8 x
                  have Hp := Lib.hid (hAj.poke hc (x ^^^ 1) hF)
                  clear hAj
                  go_wp2
                  go_roundw
                  case rel => exact ⟨j + 1, by omega, by go_num, Hp.out⟩
                  case measure => simp [intOf]; omega
                · go_wp2
                  go_roundw
                  case rel => exact ⟨i9 + 1, by omega, by go_num, hAj.up, hAj.own⟩
                  case measure => simp [intOf]; omega
            · have Hsk := Lib.hid ((hSk5.out.frame hup (fun b _ hb hd => by omega)).mono (fun b _ hb => hb.1))
              have hde : decide (all = all) = true := decide_eq_true rfl
              have Hwas := Lib.hid (hsl5.out.out hup (fun b _ hb hd => by omega))
              have Hup := Lib.hid hup
              clear hup hown
              go_wp2_with (first
                | (go_at_call 33; refine (HAll.out _ Hsk.out).mono ?_; rintro r w10 ⟨v10, rfl, hx10, ho10⟩; have hsl10 := Lib.hid (Owned.ents ho10 (by omega)); obtain ⟨A10, n10, rfl, -⟩ := hsl10.out.form; clear ho10)
                | (go_at_call 32; refine (r3_sameEntries _ _ _ hsl10.out (Hwas.out.ext hx10)).mono ?_; rintro r w11 ⟨rfl, hx11⟩))
              go_ret
              exact ⟨rfl, ((hE5.out.then Hup.out (fun i hi h => by have := hE5.out.size; omega)).ext hx10).ext hx11⟩
end Go.Proofs.Yteaanagljmcidaa

/- skip: each. -/
import Derived.Test.YteaanagljmcidaaSkFrom
import Derived.Test.YteaanagljmcidaaRfLaw
namespace Go.Proofs.Yteaanagljmcidaa
open Go.RowKit

attribute [local go_sem] Oper.semAt_some

/-- What a round is handed: an entry, in values of its own. -/
structure EV where
  e : Ent
  u : Value
  v : Value

def EV.enc (x : EV) : Array Value := #[.agg #[x.u, u64V x.e.key.seq, byteV x.e.key.kind, x.v]]
def EV.Rd (B : Nat) (x : EV) (W : World) : Prop := Bs W (fun b => B ≤ b) x.u x.e.key.user ∧ Bs W (fun b => B ≤ b) x.v x.e.value

set_option maxHeartbeats 400000 in
theorem sk_each (w : World) (p : Option Addr) (r : Int) : Calls Try.prog 100 #[.pointer p, .int .i64 r] w fun e w' =>
    e = .returned (.func (.func 153) #[] #[.pointer (some ⟨w.heap.size, 0, none⟩), .pointer (some ⟨w.heap.size + 1, 0, none⟩)]) ∧ w' = (w.alloc (.cells #[.pointer p] 24)).alloc (.cells #[.int .i64 r] 3) := by
  go_enter Try.func100, Try.ntmps100
  go_wp2
  go_ret
  exact ⟨rfl, rfl⟩

/-- What of a row is still to come. -/
def leftIn (c : List Nat) (v : Value) : Nat := c.length - c.idxOf (intOf v).toNat
theorem leftIn_nil {c : List Nat} (h : 0 ∉ c) : leftIn c (.int .i64 0) = 0 := by
  have : c.idxOf 0 = c.length := List.idxOf_eq_length h
  simp [leftIn, intOf, this]
theorem idxOf_mid {p l : List Nat} {a : Nat} (h : a ∉ p) : (p ++ a :: l).idxOf a = p.length := by
  induction p with
  | nil => simp
  | cons b p ih =>
    have hb : b ≠ a := fun e => h (by simp [e])
    have hp : a ∉ p := fun e => h (by simp [e])
    have hb' : (b == a) = false := by simpa using hb
    rw [List.cons_append, List.idxOf_cons, ih hp, hb']; simp
theorem leftIn_at {c p l : List Nat} {a : Nat} (h : c = p ++ a :: l) (hn : c.Nodup) : leftIn c (.int .i64 (a : Int)) = l.length + 1 := by
  subst h
  have ha : a ∉ p := fun e => (List.nodup_append.1 hn).2.2 a e a (by simp) rfl
  simp [leftIn, intOf, idxOf_mid ha]

variable {w : World} {Foot : Nat → Prop} {L : Nat} {v : Value} {ts : List Tw} {ord : List Nat} {size : Int}

set_option maxRecDepth 100000 in
set_option maxHeartbeats 1000000 in
theorem sk_eachGives (n : Nat) (hn1 : 1 ≤ n) (h : Sk w Foot L v ts size) (hg : Good ts ord) (r : Nat) (hr : r < 8) (Bl Br : Nat) (hbl : w.cell? ⟨Bl, 0, none⟩ = some (.pointer (some ⟨L, 0, none⟩))) (hbr : w.cell? ⟨Br, 0, none⟩ = some (.int .i64 (r : Int)))
    (K : Nat → Prop) (hK1 : ∀ b, Foot b → ¬ K b) (hK2 : ¬ K Bl) (hK3 : ¬ K Br) (B : Nat) :
    Gives n Try.prog 153 #[.pointer (some ⟨Bl, 0, none⟩), .pointer (some ⟨Br, 0, none⟩)] EV.enc EV.Rd B K (fun xs => xs.map (·.e) = (chain ts ord r).map (entAt ts)) (chain ts ord r).length w := by
  intro l J W hKW hB hJ hY h0
  have hmix : Try.prog.follows .mixedOrders = true := by kernel_rfl
  have hs := h.frame hKW (fun b _ hb => hK1 b hb)
  have hl' := hKW.cell hbl hK2
  have hr' := hKW.cell hbr hK3
  refine callsIn_of_wp Try.func153 rfl trivial ?_ rfl
  simp only [Try.ntmps153, List.size_toArray, List.length_cons, List.length_nil, Nat.reduceAdd, Nat.reduceSub, Array.replicate_succ, Array.replicate_zero, List.push_toArray, List.append_toArray, List.nil_append, List.cons_append]
  obtain ⟨R, cap, rfl⟩ := hs.arena
  obtain ⟨l0, l1, -⟩ := hs.cells
  have hpos : 0 < ts.length := hs.pos
  obtain ⟨-, -, -, -, -, -, a4, -, -⟩ := hs.tower 0 hpos
  have hh0 : r < ts[0].nx.length := by rw [← hgt_get hpos, hg.head]; exact hr
  have n0 := hs.nxCell 0 hpos r hh0
  have hsm := hs.small
  have hnx := nxt_get hpos hh0
  rw [← hnx] at n0
  have hlk := hg.link r hr
  have h1 : nxt ts r 0 = (chain ts ord r).headD 0 := hlk.1
  rw [h1] at n0
  have hnd : (chain ts ord r).Nodup := hg.nodup.filter _
  have hin : ∀ i ∈ chain ts ord r, 0 < i ∧ i < ts.length ∧ r < hgt ts i := fun i hi => by
    have := mem_chain.1 hi
    have h2 := (hg.mem i).1 this.1
    exact ⟨h2.1, h2.2, this.2⟩
  have Hlk := Lib.hid hlk
  have Hnd := Lib.hid hnd
  have Hin := Lib.hid hin
  have HS := Lib.hid hs
  have HKW := Lib.hid hKW
  have HJ := Lib.hid hJ
  have HY := Lib.hid hY
  clear hlk hnd hin hs hKW hJ hY h h1 hg hnx
  gi_wp2
  gi_region_o
  gi_wp2
  gi_loopw [4] (fun s4 wr => ∃ (pre : List EV) (p rest : List Nat), chain ts ord r = p ++ rest ∧ s4 = .int .i64 (rest.head?.getD 0 : Nat) ∧ pre.map (·.e) = p.map (entAt ts) ∧ J pre wr ∧ Out K W wr) (fun s4 _ => leftIn (chain ts ord r) s4)
  case atStart => exact ⟨[], [], chain ts ord r, rfl, rfl, rfl, HJ.out _ _ _ h0 (Out.refl _ _).drew, (Out.refl _ _).drew⟩
  case round =>
    obtain ⟨pre, p, rest, hc, rfl, hpre, hj, hO⟩ := hrel
    cases rest with
    | nil =>
      have HJ' := Lib.hid hj
      have HO := Lib.hid hO
      have HPre := Lib.hid hpre
      clear hj hO hpre
      gi_wp2
      go_end0
      exact ⟨⟨_, rfl⟩, pre, by rw [HPre.out, hc, List.append_nil], HJ'.out, HO.out⟩
    | cons x rest =>
      obtain ⟨x0, x1, x2⟩ := Hin.out x (by rw [hc]; simp)
      have hsr := HS.out.frame hO (fun b _ hb => hK1 b hb)
      obtain ⟨b0, -, -⟩ := hsr.cells
      obtain ⟨ux, vx, c0, c1, c2, c3, c4, hbu, hbv⟩ := hsr.tower x x1
      obtain ⟨A1, k1, m1, rfl⟩ := hbu.form0
      obtain ⟨A2, k2, m2, rfl⟩ := hbv.form0
      have d0 := hO.cell hl' hK2
      have d1 := hO.cell hr' hK3
      have hhx : r < ts[x].nx.length := by rw [← hgt_get x1]; exact x2
      have hx0 : ((x : Int) != 0) = true := by simp; omega
      have hlen : pre.length < (chain ts ord r).length := by
        have := congrArg List.length hpre
        rw [List.length_map, List.length_map] at this
        rw [hc, List.length_append, List.length_cons]; omega
      have hnxt : nxt ts r x = rest.headD 0 := Hlk.out.2 p x rest hc
      have HJ' := Lib.hid hj
      have HO := Lib.hid hO
      have HPre := Lib.hid hpre
      have Hbu := Lib.hid hbu
      have Hbv := Lib.hid hbv
      have Hc := Lib.hid hc
      have Hlen := Lib.hid hlen
      have Hnxt := Lib.hid hnxt
      clear hj hO hpre hbu hbv hsr hc hlen hnxt
      gi_wp2_with (first | (refine ⟨trivial, ?_⟩; gi_at_call 99; refine (callsIn_wide.2 (skip_copyOf _ ts[x].e Hbu.out Hbv.out)).mono ?_; rintro e w4 ⟨u1, v1, rfl, hx4, hb1, hb2⟩; obtain ⟨A3, k3, m3, rfl⟩ := hb1.form0; obtain ⟨A4, k4, m4, rfl⟩ := hb2.form0; obtain ⟨fn, tm, asg, bod, hy, hR⟩ := HY.out pre ⟨ts[x].e, .slice A3 k3 m3, .slice A4 k4 m4⟩ wr w4 HJ'.out hx4 (Nat.le_trans hB HO.out.size) ⟨hb1, hb2⟩ Hlen.out; simp only [EV.enc] at hy))
      refine hR.mono ?_
      rintro e W' ⟨rfl, hJ', hK'⟩
      have hO' := (HO.out.ext hx4).trans hK'
      have hs' := HS.out.frame hO' (fun b _ hb => hK1 b hb)
      obtain ⟨f0, -, -⟩ := hs'.cells
      obtain ⟨-, -, -, -, -, -, f4, -, -⟩ := hs'.tower x x1
      have fn0 := hs'.nxCell x x1 r hhx
      rw [← nxt_get x1 hhx, Hnxt.out, List.headD_eq_head?_getD] at fn0
      have g0 := hO'.cell hl' hK2
      have g1 := hO'.cell hr' hK3
      have HJ3 := Lib.hid hJ'
      have HO3 := Lib.hid hO'
      clear hJ' hO' hs' hK' hR hy
      gi_wp2
      gi_region_o
      gi_wp2
      go_roundw
      case rel => exact ⟨pre ++ [⟨ts[x].e, .slice A3 k3 m3, .slice A4 k4 m4⟩], p ++ [x], rest, by rw [Hc.out]; simp, rfl, by rw [List.map_append, List.map_append, HPre.out]; simp [entAt_get x1], HJ.out _ _ _ HJ3.out (Out.refl _ _).drew, HO3.out.drew⟩
      case measure =>
        show _ < leftIn (chain ts ord r) (Value.int .i64 (x : Int))
        rw [leftIn_at Hc.out Hnd.out]
        cases rest with
        | nil => simp only [List.head?_nil, Option.getD_none]; rw [show ((0 : Nat) : Int) = 0 from rfl, leftIn_nil (fun h => absurd (Hin.out 0 h).1 (by omega))]; simp
        | cons y rest => simp only [List.head?_cons, Option.getD_some]; rw [leftIn_at (p := p ++ [x]) (a := y) (l := rest) (by rw [Hc.out]; simp) Hnd.out]; simp
end Go.Proofs.Yteaanagljmcidaa

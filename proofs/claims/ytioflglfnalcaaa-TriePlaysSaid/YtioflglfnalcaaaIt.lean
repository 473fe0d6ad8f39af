/- The iterator that Below hands back, at Trie[int]: one round after another. -/
import Derived.RangeFuncBox
import Derived.RangeFuncLeaves
import Derived.WalkKit
import Derived.OwnWalkIn
import Derived.TacticsInMore
import Derived.LoopIn
import Derived.Stop.RegionWithIn
import Derived.Deep.Onto
import Derived.Test.YtioflglfnalcaaaWj
import Derived.Test.YtioflglfnalcaaaColl
import Derived.Test.YtioflglfnalcaaaRegIn
namespace Go.Proofs.Ytioflglfnalcaaa
open Go.RowKit

attribute [local go_sem] Oper.semAt_some

/-- A cell of an owned row. -/
theorem own_cell {w : World} {B : Nat} {e : TypeId} {v : Value} {n : Nat} {xs : List Value} (h : w.ownsRow B e 1 v n xs) {k : Nat} (hk : k < n) :
    ∃ g cap u, v = .slice (some ⟨g, 0, none⟩) n cap ∧ xs[k]? = some u ∧ w.cell? ⟨g, k, none⟩ = some u := by
  rcases h.2 with ⟨_, h0⟩ | ⟨g, cap, cur, rfl, _, hg, hn, _, hs, hx⟩
  · omega
  · rw [Nat.mul_one] at hs hx
    have hkl : k < cur.size := by omega
    refine ⟨g, cap, cur[k], rfl, ?_, ?_⟩
    · rw [← hx, List.getElem?_take_of_lt hk]; simp [hkl]
    · rw [cell_of_row _ _ _ _ _ _ hg]; simp [hkl]

/-- What a call of yield is promised. -/
def YieldsOk (n l : Nat) (res : List (List Int × Value)) (J : Nat → World → Prop) (Jx : World → Prop) : Prop :=
  ∀ k W0 W1 A cap p v, res[k]? = some (p, v) → J k W0 → Below W0.heap.size W0 W1 → (∀ ad, A = some ad → W0.heap.size ≤ ad.block ∧ ad.block < W1.heap.size) → RdT W1 A p → (A = none → cap = 0) → p.length ≤ cap → W1.ownsRow W0.heap.size 21 1 (.slice A p.length cap) p.length (p.map enc32) →
    YieldAt Fence.wide (n - 1) Try.prog l #[.slice A p.length cap, v] W1 fun e W' => (e = .returned (.bool true) ∧ J (k + 1) W') ∨ (e = .returned (.bool false) ∧ Jx W')

structure R3 (w0 : World) (yv rowv tv v : Value) (g2 k : Nat) (p : List Int) (L : Nat → Bool) (w : World) (x13 x14 x15 x16 x17 x18 x19 : Value) : Prop where
  hb : Below w0.heap.size w0 w
  e0 : L 0 = true → x13 = yv
  e1 : L 1 = true → x14 = rowv
  e2 : L 2 = true → ∃ A cap, x15 = .slice A p.length cap ∧ RdT w A p ∧ (A = none → cap = 0) ∧ p.length ≤ cap ∧ (∀ ad, A = some ad → w0.heap.size ≤ ad.block ∧ ad.block < w.heap.size) ∧ w.ownsRow w0.heap.size 21 1 (.slice A p.length cap) p.length (p.map enc32)
  e3 : L 3 = true → x16 = tv
  e4 : L 4 = true → x17 = .int .i64 (k : Int)
  e5 : L 5 = true → x18 = .pointer (some ⟨g2, k, none⟩)
  e6 : L 6 = true → x19 = v

def fr3 (pre : List Value) (x13 x14 x15 x16 x17 x18 x19 x20 x21 u22 : Value) : Act := { tmps := (pre ++ [x13, x14, x15, x16, x17, x18, x19, x20, x21, u22]).toArray, defers := [] }
def J3 (w0 : World) (yv rowv tv v : Value) (g2 k : Nat) (p : List Int) (Go : World → Prop) (No : World → Prop) (pre : List Value) (u22 : Value) (L : Nat → Bool) (a : Act) (w : World) : Prop :=
  ∃ x13 x14 x15 x16 x17 x18 x19 x20 x21, a = fr3 pre x13 x14 x15 x16 x17 x18 x19 x20 x21 u22 ∧ (L 7 = false → R3 w0 yv rowv tv v g2 k p L w x13 x14 x15 x16 x17 x18 x19) ∧
    (L 7 = true → (∀ i, i < 7 → L i = true) ∧ ∃ bb, x20 = .bool bb ∧ (L 8 = true → x21 = .bool (!bb)) ∧ (bb = true → Go w) ∧ (bb = false → No w))

set_option maxHeartbeats 1000000 in
set_option maxRecDepth 100000 in
theorem iter_i (n l br bt B : Nat) (rv tv : Value) (rvals : List Value) (res : List (List Int × Value)) (J : Nat → World → Prop) (Jx : World → Prop) (hY : YieldsOk n l res J Jx)
    (hC : ∀ k W, J k W → Coll 43 64 3 B W br bt rv tv rvals (res.map (·.2)) (res.map (·.1))) (hlen : ∀ x ∈ res, x.1.length ≤ 35184372088832) (hN : res.length ≤ 35184372088832) (W : World) (h0 : J 0 W) :
    CallsIn Fence.wide n Try.prog 48 #[.func (.yield l) #[] #[], ptr br, ptr bt] W fun e W' => (∃ v, e = .returned v) ∧ (J res.length W' ∨ Jx W') := by
  have HC := Lib.hid hC
  have HY := Lib.hid hY
  have Hlen := Lib.hid hlen
  have c0 := (hC 0 W h0).box.cell
  have hl0 : ∃ A cap, rv = .slice A res.length cap := by
    rcases (hC 0 W h0).own.2 with ⟨h1, h2⟩ | ⟨g, cap, cur, h1, _⟩
    · have : res.length = 0 := by simpa using h2
      exact ⟨none, 0, by rw [this]; exact h1⟩
    · exact ⟨_, cap, by simpa using h1⟩
  obtain ⟨Ar, capr, rfl⟩ := hl0
  clear hC hY hlen
  refine callsIn_of_wp Try.func48 rfl trivial ?_ rfl
  simp only [Try.ntmps48, List.size_toArray, List.length_cons, List.length_nil, Nat.reduceAdd, Nat.reduceSub, Array.replicate_succ, Array.replicate_zero, List.push_toArray, List.append_toArray, List.nil_append, List.cons_append]
  gi_wp2
  gi_loopw [8] (fun i wr => ∃ k : Nat, k ≤ res.length ∧ i = .int .i64 k ∧ Hid (J k wr)) (fun i _ => res.length - (intOf i).toNat)
  case atStart => exact ⟨0, Nat.zero_le _, rfl, Lib.hid h0⟩
  case round =>
    obtain ⟨k, hk, rfl, hJ⟩ := hrel
    by_cases hlt : k < res.length
    · have hCk := HC.out k wr hJ.out
      obtain ⟨⟨p, v⟩, hpv⟩ : ∃ x, res[k]? = some x := ⟨res[k], by simp [hlt]⟩
      obtain ⟨g, cp, u, e1, hu, hcu⟩ := own_cell hCk.own (k := k) (by simpa using hlt)
      injection e1 with e1 e2 e3
      subst e1; subst e3
      obtain ⟨g2, cp2, u2, rfl, hu2, hcu2⟩ := own_cell hCk.town (k := k) (by simpa using hlt)
      have hpn : (res.map (·.1)).getD k [] = p := by simp [List.getD, hpv]
      obtain ⟨A0, cap0, hu', hrd0, hn0⟩ := hCk.are.2 k (by simpa using hlt)
      rw [hpn] at hu' hrd0
      rw [hu] at hu'
      injection hu' with hu'
      subst hu'
      have hv2 : u2 = v := by
        rw [List.getElem?_map, hpv] at hu2
        simpa using hu2.symm
      subst hv2
      have cbt := hCk.tbox.cell
      have hpl : p.length ≤ 35184372088832 := Hlen.out (p, u2) (List.mem_of_getElem? hpv)
      have hrd0' := Lib.hid hrd0
      have hpv' := Lib.hid hpv
      have hb1 := hCk.tbox.lt
      have hbg2 := cell_lt hcu2
      simp only [List.length_map] at cbt
      clear hCk hrd0 hpv hpn hu hu2 HC e2 c0
      have hk1 : (0 : Int) ≤ (k : Int) := by omega
      have hk2 : (k : Int) < (res.length : Int) := by omega
      gi_wp2
      refine wpIn_region_closed (by kernel_rfl) (by kernel_rfl) (J3 wr (.func (.yield l) #[] #[]) (.slice A0 p.length cap0) (.slice (some ⟨g2, 0, none⟩) res.length cp2) u2 g2 k p (J (k + 1)) Jx
        [.func (.yield l) #[] #[], ptr br, ptr bt, undef, .int .i64 k, .slice A0 p.length cap0, .slice (some ⟨g, 0, none⟩) res.length capr, .int .i64 res.length, .int .i64 k, .bool true, .int .i64 k, .pointer (some ⟨g, k, none⟩), .slice A0 p.length cap0] u22) ?_ ?_ ?_
      · refine ⟨u13, u14, u15, u16, u17, u18, u19, u20, u21, rfl, fun _ => ?_, (nomatch ·)⟩
        exact { hb := (Below.refl _ _).drew, e0 := (nomatch ·), e1 := (nomatch ·), e2 := (nomatch ·), e3 := (nomatch ·), e4 := (nomatch ·), e5 := (nomatch ·), e6 := (nomatch ·) }
      · intro i o L a w1 ho hL hpre hcl hJJ
        have hi : i < 9 := by
          rcases Nat.lt_or_ge i 9 with h | h
          · exact h
          · rw [Array.getElem?_eq_none (by simpa using h)] at ho; cases ho
        obtain ⟨x13, x14, x15, x16, x17, x18, x19, x20, x21, rfl, hJ1, hJ2⟩ := hJJ
        rcases (by omega : i = 8 ∨ i < 8) with rfl | hi8
        · cases ho
          have h7 : L 7 = true := hpre ⟨7, .data⟩ (by simp) rfl
          obtain ⟨hall, bb, rfl, h8, hg, hn⟩ := hJ2 h7
          have hall' := Lib.hid hall
          have hg' := Lib.hid hg
          have hn' := Lib.hid hn
          clear hJ1 hJ2 hpre hcl hall hg hn h8
          unfold StepIn fr3
          simp only [List.cons_append, List.nil_append]
          go_simp
          refine ⟨_, _, _, _, _, _, _, _, _, rfl, fun e => absurd (show L 7 = false from e) (by rw [h7]; decide), fun _ => ⟨fun i hi => ?_, bb, rfl, fun _ => rfl, hg'.out, hn'.out⟩⟩
          show (decide (i = 8) || L i) = true
          rw [hall'.out i hi]; simp
        have h7 : L 7 = false := by
          cases h : L 7 with
          | false => rfl
          | true =>
            rcases (by omega : i < 7 ∨ i = 7) with h1 | h1
            · have := (hJ2 h).1 i h1; rw [hL] at this; cases this
            · subst h1; rw [hL] at h; cases h
        have hR := hJ1 h7
        have HR3 := Lib.hid hR
        have hBB := hR.hb
        have hcb : w1.cell? ⟨bt, 0, none⟩ = some (.slice (some ⟨g2, 0, none⟩) res.length cp2) := (hBB.cell (p := ⟨bt, 0, none⟩) hb1).trans cbt
        have hcv : w1.cell? ⟨g2, k, none⟩ = some u2 := (hBB.cell (p := ⟨g2, k, none⟩) hbg2).trans hcu2
        have hrw : RdT w1 A0 p := hrd0'.out.new hBB
        have hclone := Lib.hid (clone_o w1 A0 cap0 p hrw.rd hpl hn0)
        clear hJ1 hJ2 hrw
        rcases (by omega : i = 0 ∨ i = 1 ∨ i = 2 ∨ i = 3 ∨ i = 4 ∨ i = 5 ∨ i = 6 ∨ i = 7) with rfl | rfl | rfl | rfl | rfl | rfl | rfl | rfl
        · cases ho
          clear hR hpre hcl
          unfold StepIn fr3
          simp only [List.cons_append, List.nil_append]
          go_simp
          exact ⟨_, _, _, _, _, _, _, _, _, rfl, fun _ => { HR3.out with e0 := fun _ => rfl }, fun e => absurd (show L 7 = true from e) (by rw [h7]; decide)⟩
        · cases ho
          clear hR hpre hcl
          unfold StepIn fr3
          simp only [List.cons_append, List.nil_append]
          go_simp
          exact ⟨_, _, _, _, _, _, _, _, _, rfl, fun _ => { HR3.out with e1 := fun _ => rfl }, fun e => absurd (show L 7 = true from e) (by rw [h7]; decide)⟩
        · cases ho
          obtain rfl := hR.e1 (hpre ⟨1, .data⟩ (by simp) rfl)
          have hb2 := Lib.hid hBB
          clear hR hpre hcl hBB
          unfold StepIn fr3
          simp only [List.cons_append, List.nil_append]
          go_simp
          refine ⟨trivial, (by intro h; cases h), CallsIn.mono (callsIn_wide.2 hclone.out) ?_⟩
          rintro e w3 ⟨A2, cap2, rfl, g1', g2', g3', g4', g5', g6'⟩
          have h := HR3.out
          refine ⟨_, _, _, _, _, _, _, _, _, rfl, fun _ => ⟨h.hb.trans (g5'.mono h.hb.size), h.e0, h.e1, fun _ => ⟨A2, cap2, rfl, g3', g2', g1', fun ad e => ?_, World.ownsRow.mono g6' h.hb.size⟩, h.e3, h.e4, h.e5, h.e6⟩, fun e => absurd (show L 7 = true from e) (by rw [h7]; decide)⟩
          have h1 := g4' ad e
          have h2 := h.hb.size
          omega
        · cases ho
          clear hR hpre hcl
          unfold StepIn fr3
          simp only [List.cons_append, List.nil_append]
          go_simp
          exact ⟨_, _, _, _, _, _, _, _, _, rfl, fun _ => { HR3.out with e3 := fun _ => rfl }, fun e => absurd (show L 7 = true from e) (by rw [h7]; decide)⟩
        · cases ho
          clear hR hpre hcl
          unfold StepIn fr3
          simp only [List.cons_append, List.nil_append]
          go_simp
          exact ⟨_, _, _, _, _, _, _, _, _, rfl, fun _ => { HR3.out with e4 := fun _ => rfl }, fun e => absurd (show L 7 = true from e) (by rw [h7]; decide)⟩
        · cases ho
          obtain rfl := hR.e3 (hpre ⟨3, .data⟩ (by simp) rfl)
          obtain rfl := hR.e4 (hpre ⟨4, .data⟩ (by simp) rfl)
          clear hR hpre hcl
          unfold StepIn fr3
          simp only [List.cons_append, List.nil_append]
          go_simp
          exact ⟨_, _, _, _, _, _, _, _, _, rfl, fun _ => { HR3.out with e5 := fun _ => rfl }, fun e => absurd (show L 7 = true from e) (by rw [h7]; decide)⟩
        · cases ho
          obtain rfl := hR.e5 (hpre ⟨5, .data⟩ (by simp) rfl)
          clear hR hpre hcl
          unfold StepIn fr3
          simp only [List.cons_append, List.nil_append]
          go_simp
          exact ⟨_, _, _, _, _, _, _, _, _, rfl, fun _ => { HR3.out with e6 := fun _ => rfl }, fun e => absurd (show L 7 = true from e) (by rw [h7]; decide)⟩
        · cases ho
          have h0 : L 0 = true := hpre ⟨0, .data⟩ (by simp) rfl
          have h2 : L 2 = true := hpre ⟨2, .data⟩ (by simp) rfl
          have h6 : L 6 = true := hpre ⟨6, .data⟩ (by simp) rfl
          have h1 : L 1 = true := hcl 2 _ rfl h2 ⟨1, .data⟩ (by simp) rfl
          have h5 : L 5 = true := hcl 6 _ rfl h6 ⟨5, .data⟩ (by simp) rfl
          have h3 : L 3 = true := hcl 5 _ rfl h5 ⟨3, .data⟩ (by simp) rfl
          have h4 : L 4 = true := hcl 5 _ rfl h5 ⟨4, .data⟩ (by simp) rfl
          have hall : Hid (∀ i, i < 7 → L i = true) := by
            intro i hi
            rcases (by omega : i = 0 ∨ i = 1 ∨ i = 2 ∨ i = 3 ∨ i = 4 ∨ i = 5 ∨ i = 6) with rfl | rfl | rfl | rfl | rfl | rfl | rfl <;> assumption
          have h8 : L 8 = false := by
            cases h : L 8 with
            | false => rfl
            | true =>
              have := hcl 8 _ rfl h ⟨7, .data⟩ (by simp) rfl
              rw [h7] at this; cases this
          obtain rfl := hR.e0 h0
          obtain rfl := hR.e6 h6
          obtain ⟨A2, cap2, rfl, g1', g2', g3', g4', g5'⟩ := hR.e2 h2
          obtain ⟨fn, tmps, assign, body, hy, hRd⟩ := HY.out k wr w1 A2 cap2 p x19 hpv'.out hJ.out hBB g4' g1' g2' g3' g5'
          replace hRd := Lib.hid hRd
          clear hR hpre hcl h0 h1 h2 h3 h4 h5 h6 hBB
          unfold StepIn fr3
          simp only [List.cons_append, List.nil_append]
          go_simp
          refine ⟨(by intro h; cases h), RoundIn.mono hRd.out ?_⟩
          rintro e w3 (⟨rfl, hq⟩ | ⟨rfl, hq⟩)
          · refine ⟨_, _, _, _, _, _, _, _, _, rfl, (nomatch ·), fun _ => ⟨fun i hi => ?_, true, rfl, fun e => absurd (show L 8 = true from e) (by rw [h8]; decide), fun _ => hq, (nomatch ·)⟩⟩
            show (decide (i = 7) || L i) = true
            rw [hall.out i hi]; simp
          · refine ⟨_, _, _, _, _, _, _, _, _, rfl, (nomatch ·), fun _ => ⟨fun i hi => ?_, false, rfl, fun e => absurd (show L 8 = true from e) (by rw [h8]; decide), (nomatch ·), fun _ => hq⟩⟩
            show (decide (i = 7) || L i) = true
            rw [hall.out i hi]; simp
      · rintro L a w1 hall ⟨x13, x14, x15, x16, x17, x18, x19, x20, x21, rfl, hJ1, hJ2⟩
        obtain ⟨-, bb, rfl, h8, hg, hn⟩ := hJ2 (hall 7 (by decide))
        obtain rfl := h8 (hall 8 (by decide))
        cases bb with
        | true =>
          have hk3 := Lib.hid (hg rfl)
          clear hJ1 hJ2 hg hn h8 hall
          unfold fr3
          simp only [List.cons_append, List.nil_append]
          gi_wp2
          exact ⟨⟨k + 1, by omega, by simp, hk3⟩, by simp [intOf]; omega⟩
        | false =>
          have hk3 := Lib.hid (hn rfl)
          clear hJ1 hJ2 hg hn h8 hall
          unfold fr3
          simp only [List.cons_append, List.nil_append]
          gi_wp2
          refine bodyPost_ret (results_none rfl _ _ _) rfl ?_
          exact ⟨⟨_, rfl⟩, .inr hk3.out⟩
    · have e : k = res.length := by omega
      subst e
      gi_wp2
      go_end0
      exact ⟨⟨_, rfl⟩, .inl hJ.out⟩
end Go.Proofs.Ytioflglfnalcaaa

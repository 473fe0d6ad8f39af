/- slices.Sort at int32: breakPatternsOrdered: it permutes. -/
import Derived.Lib.EndianBits
import Derived.Deep.DeepCutAuto
import Derived.Test.YtioflglfnalcaaaSj
namespace Go.Proofs.Ytioflglfnalcaaa
open Go.RowKit

theorem and_mask (v : Int) (mm : Nat) (h0 : 0 ≤ v) (h1 : v ≤ 18446744073709551615) (hm : mm < 18446744073709551616) : ∃ o : Nat, bits .and .u64 v (mm : Int) = (o : Int) ∧ o ≤ mm := by
  obtain ⟨n, rfl⟩ : ∃ n : Nat, v = (n : Int) := ⟨v.toNat, by omega⟩
  have h := (bits_nat .u64 64 (by decide) wraps_u64 n mm (by omega) (by omega)).1
  exact ⟨n &&& mm, h, Nat.and_le_right⟩

structure BrS (w1 : World) (g s len a b : Nat) (d : Array Int) (wr : World) (dk : Array Int) (v : Int) : Prop where
  row : RowI wr g dk
  size : dk.size = len
  perm : Sort.PermIn a b d dk
  v0 : 0 ≤ v
  v1 : v ≤ 18446744073709551615
  cell : wr.heap[s]? = some (.cells #[.int .u64 v] 128 (0, 0))
  fr : Fr (fun k => k = g ∨ k = s) w1 wr

set_option maxHeartbeats 1000000 in
set_option maxRecDepth 100000 in
theorem break_i (w : World) (g cap len : Nat) (d : Array Int) (a b : Nat) (hd : RowI w g d) (hlen : d.size = len) (hsz : len ≤ 35184372088832) (hab : a + 12 < b) (hb : b ≤ len) :
    Calls Try.prog 71 #[.slice (some ⟨g, 0, none⟩) len cap, .int .i64 a, .int .i64 b] w (PermP w g a b d) := by
  obtain ⟨l, hl⟩ : ∃ l, l = b - a := ⟨_, rfl⟩
  obtain ⟨q, hq⟩ : ∃ q, q = l / 4 := ⟨_, rfl⟩
  obtain ⟨j, hj⟩ : ∃ j, j = a + q * 2 := ⟨_, rfl⟩
  have hl8 : 12 < l := by omega
  have hll : l ≤ 35184372088832 := by omega
  have e0 : (b : Int) - (a : Int) = (l : Int) := by omega
  have w0 : IntKind.i64.wrap ((b : Int) - (a : Int)) = (l : Int) := by rw [IntWalk.i64_in _ ⟨by omega, by omega⟩]; omega
  have v0 : IntKind.i64.wrap (l : Int) = (l : Int) := IntWalk.i64_in _ ⟨by omega, by omega⟩
  have eq : (l : Int).tdiv 4 = (q : Int) := by rw [hq]; rfl
  have e2 : (a : Int) + (q : Int) * 2 = (j : Int) := by omega
  have hj0 : a < j ∧ j + 1 < b := by omega
  have hlb : a + l = b := by omega
  have u0 : IntKind.u64.wrap (l : Int) = (l : Int) := wraps_u64 _ (by omega) (by omega)
  obtain ⟨s, hs⟩ : ∃ s, s = w.heap.size := ⟨_, rfl⟩
  obtain ⟨w1, hw1⟩ : ∃ w1, w1 = w.alloc (.cells #[.int .u64 (l : Int)] 128) := ⟨_, rfl⟩
  have hF1 : Fr Nob w w1 := by rw [hw1]; exact (Fr.refl Nob w).alloc _
  have hgs : g ≠ s := by
    obtain ⟨rest, hd⟩ := hd
    have := lt_of_heap hd
    omega
  have X0 : Hid (BrS w1 g s len a b d w1 d (l : Int)) := ⟨hd.frame hF1 fun h => h, hlen, Sort.permIn_refl _ _ _, by omega, by omega, by rw [hw1, hs]; exact heap_alloc_eq w _, Fr.refl _ _⟩
  have hFs : Hid (∀ w2, Fr (fun k => k = g ∨ k = s) w1 w2 → Fr (· = g) w w2) := by
    intro w2 h
    subst hw1
    refine ((Fr.refl (· = g) w).alloc _).trans h fun k hk e => ?_
    rcases e with e | e
    · exact e
    · omega
  have hs' := Lib.hid hs
  have hw1' := Lib.hid hw1
  clear hl hq hj hd hs hw1 hF1
  go_enter Try.func71, Try.ntmps71
  go_wp2_with fail
  refine (nextpow_i l hll (by omega) _).mono ?_
  rintro e w2 ⟨⟨m, rfl, hm1, hm2⟩, rfl⟩
  rw [← hs'.out, ← hw1'.out]
  go_wp2
  obtain ⟨mm, hmm⟩ : ∃ mm, mm = m - 1 := ⟨_, rfl⟩
  have hmm2 : mm < m := by omega
  have f1 : (m : Int) - 1 = (mm : Int) := by omega
  have f2 : IntKind.u64.wrap ((m : Int) - 1) = (mm : Int) := by rw [f1]; exact wraps_u64 _ (by omega) (by omega)
  have f3 : IntKind.u64.wrap (mm : Int) = (mm : Int) := wraps_u64 _ (by omega) (by omega)
  have hmb : mm < 18446744073709551616 := by omega
  clear hmm
  go_loopw [9] (fun i wr => ∃ k : Nat, ∃ dk : Array Int, ∃ v : Int, j ≤ k + 1 ∧ k ≤ j + 2 ∧ i = .int .i64 k ∧ Hid (BrS w1 g s len a b d wr dk v)) (fun i _ => j + 2 - (intOf i).toNat)
  case atStart => exact ⟨j - 1, d, _, by omega, by omega, by go_num, X0⟩
  case round =>
    clear X0
    obtain ⟨k, dk, v, hk1, hk2, rfl, X⟩ := hrel
    by_cases hkj : k ≤ j + 1
    · have hn := Lib.hid (next_i wr s v X.out.v0 X.out.v1 X.out.cell)
      have hkb : k < b ∧ a ≤ k := by omega
      go_wp2_with fail
      refine hn.out.mono ?_
      rintro e w3 ⟨v', rfl, g0, g1, hc, hF⟩
      have hr3 : RowI w3 g dk := X.out.row.frame hF hgs
      have X3 : Hid (BrS w1 g s len a b d w3 dk v') := ⟨hr3, X.out.size, X.out.perm, g0, g1, hc, X.out.fr.trans hF fun _ _ h => .inr h⟩
      clear hn hc hF hr3 X
      obtain ⟨o, ho1, ho2⟩ := and_mask v' mm g0 g1 hmb
      have o1 : IntKind.i64.wrap (o : Int) = (o : Int) := IntWalk.i64_in _ ⟨by omega, by omega⟩
      go_upto_if 43 with fail
      go_cut [10] (fun x wr => ∃ z : Nat, x = .int .i64 z ∧ z < l ∧ wr = w3)
      case first =>
        by_cases hol : l ≤ o
        · have hd0 : decide ((l : Int) ≤ (o : Int)) = true := by simp; omega
          have hd1 : (l : Int) ≤ (o : Int) := by omega
          have hd2 : (o : Int) - (l : Int) = ((o - l : Nat) : Int) := by omega
          have hd3 : IntKind.i64.wrap ((o : Int) - (l : Int)) = ((o - l : Nat) : Int) := by rw [IntWalk.i64_in _ ⟨by omega, by omega⟩]; omega
          go_wp2
          go_meet
          case rel => exact ⟨o - l, by go_num, by omega, rfl⟩
        · have hd0 : decide ((l : Int) ≤ (o : Int)) = false := by simp; omega
          have hd1 : ¬ (l : Int) ≤ (o : Int) := by omega
          go_wp2
          go_meet
          case rel => exact ⟨o, rfl, by omega, rfl⟩
      case rest =>
        obtain ⟨z, rfl, hz, rfl⟩ := hcut
        obtain ⟨p, hp⟩ : ∃ p, p = a + z := ⟨_, rfl⟩
        have hp2 : a ≤ p ∧ p < b := by omega
        have e5 : (a : Int) + (z : Int) = (p : Int) := by omega
        have e6 : IntKind.i64.wrap ((a : Int) + (z : Int)) = (p : Int) := by rw [IntWalk.i64_in _ ⟨by omega, by omega⟩]; omega
        have e7 : IntKind.i64.wrap (p : Int) = (p : Int) := IntWalk.i64_in _ ⟨by omega, by omega⟩
        have hsz2 := X3.out.size
        have hr := X3.out.row
        have c0 := hr.cell (i := k) (by omega)
        have c1 := hr.cell (i := p) (by omega)
        have f0 := hr.free k
        have f4 := hr.free p
        have cs := (hr.set (i := k) (by omega) dk[p]!).cell (i := p) (by simpa using (by omega : p < dk.size))
        generalize (dk.setIfInBounds k dk[p]!)[p]! = y at cs
        have X4 : Hid (BrS w1 g s len a b d ((wc.setCell ⟨g, k, none⟩ (.int .i32 dk[p]!)).setCell ⟨g, p, none⟩ (.int .i32 dk[k]!)).drew (Sort.swp dk k p) v') :=
          ⟨swp_row (i := k) (j := p) hr (by omega) (by omega), by rw [swp_size]; exact hsz2, Sort.permIn_trans _ _ _ _ _ X3.out.perm (Sort.swp_permIn _ _ _ _ _ (by omega) (by omega) (by omega) (by omega) (by omega)), g0, g1,
            by
              show ((wc.setCell ⟨g, k, none⟩ (.int .i32 dk[p]!)).setCell ⟨g, p, none⟩ (.int .i32 dk[k]!)).heap[s]? = _
              rw [heap_set_ne _ (by exact hgs.symm), heap_set_ne _ (by exact hgs.symm)]; exact X3.out.cell,
            ((X3.out.fr.setCell (p := ⟨g, k, none⟩) (.inl (.inl rfl)) _).setCell (p := ⟨g, p, none⟩) (.inl (.inl rfl)) _).drew⟩
        generalize dk[k]! = x0 at c0 X4
        generalize dk[p]! = x1 at c1 X4 cs
        have l2 : k < len := by omega
        have l3 : p < len := by omega
        clear hsz2 hr hp X3
        go_wp2
        go_region
        go_wp2
        go_roundw
        case rel => exact ⟨k + 1, _, _, by omega, by omega, by go_num, X4⟩
        case measure => simp [intOf]; omega
    · have hX := X.out
      go_wp2
      go_end0
      exact ⟨rfl, dk, hX.perm, hX.row, hFs.out _ hX.fr⟩
end Go.Proofs.Ytioflglfnalcaaa

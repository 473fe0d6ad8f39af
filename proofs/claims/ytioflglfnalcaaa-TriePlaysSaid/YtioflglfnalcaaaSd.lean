/- slices.Sort at int32: heapSortOrdered, reverseRangeOrdered. -/
import Derived.Test.YtioflglfnalcaaaSc
namespace Go.Proofs.Ytioflglfnalcaaa
open Go.RowKit

theorem sift_size (hi first : Nat) : ∀ (n root : Nat) (d : Array Int), hi - root ≤ n → (Sort.siftDown Sort.ltInt hi first root d).size = d.size := by
  intro n
  induction n with
  | zero => intro root d hn; rw [Sort.siftDown, dif_pos (by omega)]
  | succ n ih =>
    intro root d hn
    rw [Sort.siftDown]
    split
    · rfl
    split
    · split
      · rfl
      split
      · rw [ih _ _ (by omega), swp_size]
      · rfl
    · split
      · rfl
      · rw [ih _ _ (by omega), swp_size]

theorem tdiv_half (hi : Nat) : ((hi : Int) - 1).tdiv 2 = (((hi - 1) / 2 : Nat) : Int) := by
  cases hi with
  | zero => rfl
  | succ n =>
    rw [show (((n + 1 : Nat) : Int) - 1) = (n : Int) from by omega, Nat.add_sub_cancel]
    rfl

set_option maxHeartbeats 1000000 in
set_option maxRecDepth 100000 in
theorem heap_i (w : World) (g cap len : Nat) (d : Array Int) (a b : Nat) (hd : RowI w g d) (hlen : d.size = len) (hsz : len ≤ 35184372088832) (hab : a ≤ b) (hb : b ≤ len) :
    Calls Try.prog 70 #[.slice (some ⟨g, 0, none⟩) len cap, .int .i64 a, .int .i64 b] w (SortP w g (Sort.heapSort Sort.ltInt d a b)) := by
  obtain ⟨D, hD⟩ : ∃ D, D = Sort.heapSort Sort.ltInt d a b := ⟨_, rfl⟩
  rw [← hD]
  have H0 : Hid (D = Sort.heapPop Sort.ltInt a (b - a) (Sort.heapBuild Sort.ltInt (b - a) a ((b - a - 1) / 2 + 1) d)) := hD
  obtain ⟨hi, hhi⟩ : ∃ hi, hi = b - a := ⟨_, rfl⟩
  rw [← hhi] at H0
  have Hd := Lib.hid hd
  have Hlen := Lib.hid hlen
  have hi0 : IntKind.i64.wrap ((b : Int) - (a : Int)) = (hi : Int) := by rw [IntWalk.i64_in _ ⟨by omega, by omega⟩]; omega
  have hi1 : (b : Int) - (a : Int) = (hi : Int) := by omega
  have hi2 : a + hi ≤ len := by omega
  clear hd hlen hD hhi
  go_enter Try.func70, Try.ntmps70
  go_wp2
  go_loopw [9] (fun i wr => ∃ k : Nat, ∃ dk : Array Int, k ≤ hi / 2 + 1 ∧ i = .int .i64 ((k : Int) - 1) ∧ Hid (RowI wr g dk) ∧ Hid (dk.size = len) ∧ Hid (Fr (· = g) w wr) ∧ Hid (D = Sort.heapPop Sort.ltInt a hi (Sort.heapBuild Sort.ltInt hi a k dk))) (fun i _ => (intOf i + 1).toNat)
  case atStart => exact ⟨(hi - 1) / 2 + 1, d, by omega, by rw [tdiv_half]; congr 1; omega, Hd, Hlen, Fr.refl _ _, H0⟩
  case round =>
    obtain ⟨k, dk, hk, rfl, hr, hl, hF, hI⟩ := hrel
    cases k with
    | zero =>
      obtain ⟨w1, hw1⟩ : ∃ w1, w1 = wr := ⟨_, rfl⟩
      have H1 : Hid (D = Sort.heapPop Sort.ltInt a hi dk) := hI.out
      rw [show (((0 : Nat) : Int) - 1) = -1 from rfl]
      go_wp2
      go_loopw [10] (fun i wr => ∃ k : Nat, ∃ dk : Array Int, k ≤ hi ∧ i = .int .i64 ((k : Int) - 1) ∧ Hid (RowI wr g dk) ∧ Hid (dk.size = len) ∧ Hid (Fr (· = g) w wr) ∧ Hid (D = Sort.heapPop Sort.ltInt a k dk)) (fun i _ => (intOf i + 1).toNat)
      case atStart => exact ⟨hi, dk, Nat.le_refl _, rfl, hr, hl, hF, H1⟩
      case round =>
        clear hr hl hF H1 hI
        obtain ⟨k, dk, hk, rfl, hr, hl, hF, hI⟩ := hrel
        cases k with
        | zero =>
          have H1 : Hid (RowI wr g D) := by unfold Hid; rw [hI.out]; exact hr.out
          rw [show (((0 : Nat) : Int) - 1) = -1 from rfl]
          go_wp2
          go_end0
          exact ⟨rfl, H1.out, hF.out⟩
        | succ k =>
          rw [show (((k + 1 : Nat) : Int) - 1) = (k : Int) from by omega]
          have hsz2 := hl.out
          obtain ⟨p0, hp0⟩ : ∃ p, p = a + k := ⟨_, rfl⟩
          have c0 := hr.out.cell (i := a) (by omega)
          have c1 := hr.out.cell (i := p0) (by omega)
          have f0 := hr.out.free a
          have f1 := hr.out.free p0
          have w0 : IntKind.i64.wrap ((a : Int) + (k : Int)) = (p0 : Int) := by rw [IntWalk.i64_in _ ⟨by omega, by omega⟩]; omega
          have e0 : (a : Int) + (k : Int) = (p0 : Int) := by omega
          have v0 : IntKind.i64.wrap (p0 : Int) = (p0 : Int) := IntWalk.i64_in _ ⟨by omega, by omega⟩
          have b0 : (p0 : Int) < (len : Int) := by omega
          have b1 : (a : Int) < (len : Int) := by omega
          have n0 : (0 : Int) ≤ (p0 : Int) := by omega
          have l0 : p0 < len := by omega
          have l1 : a < len := by omega
          have hs := swp_row (i := a) (j := p0) hr.out (by omega) (by omega)
          have hss : Hid ((Sort.siftDown Sort.ltInt k a 0 (Sort.swp dk a p0)).size = len) := by
            unfold Hid; rw [sift_size _ _ _ _ _ (Nat.le_refl _), swp_size]; exact hsz2
          have hc : Hid (∀ W, RowI W g (Sort.swp dk a p0) → Calls Try.prog 80 #[.slice (some ⟨g, 0, none⟩) len cap, .int .i64 (0 : Nat), .int .i64 (k : Nat), .int .i64 (a : Nat)] W (SortP W g (Sort.siftDown Sort.ltInt k a 0 (Sort.swp dk a p0)))) := fun W h => sift_i W g cap len (Sort.swp dk a p0) 0 k a h (by rw [swp_size]; exact hsz2) hsz (by omega) (Nat.zero_le _)
          have H1 : Hid (D = Sort.heapPop Sort.ltInt a k (Sort.siftDown Sort.ltInt k a 0 (Sort.swp dk a p0))) := by unfold Hid; rw [hI.out, hp0]; rfl
          generalize Sort.siftDown Sort.ltInt k a 0 (Sort.swp dk a p0) = d2 at hc H1 hss
          replace hs := Lib.hid hs
          have cs := (hr.out.set (i := a) (by omega) dk[p0]!).cell (i := p0) (by simpa using (by omega : p0 < dk.size))
          generalize (dk.setIfInBounds a dk[p0]!)[p0]! = y at cs
          generalize dk[a]! = x0 at c0 hs
          generalize dk[p0]! = x1 at c1 hs cs
          clear hsz2 hp0
          go_wp2
          go_region
          all_goals go_wp2_with fail
          all_goals refine (hc.out _ (by exact hs.out)).mono ?_
          all_goals rintro e w2 ⟨rfl, hr2, hF2⟩
          all_goals replace hr2 := Lib.hid hr2
          all_goals have hF3 := Lib.hid ((((hF.out.drewN _).setCell (p := ⟨g, a, none⟩) (.inl rfl) _).setCell (p := ⟨g, p0, none⟩) (.inl rfl) _).trans hF2 fun _ _ h => h)
          all_goals clear hF2 hc
          all_goals go_wp2
          all_goals go_roundw
          case rel => exact ⟨k, d2, by omega, by go_num, hr2, hss, hF3, H1⟩
          case measure => simp [intOf]
    | succ k =>
      rw [show (((k + 1 : Nat) : Int) - 1) = (k : Int) from by omega]
      have hsz2 := hl.out
      have hc := Lib.hid (sift_i wr g cap len dk k hi a hr.out hsz2 hsz hi2 (by omega))
      have H1 : Hid (D = Sort.heapPop Sort.ltInt a hi (Sort.heapBuild Sort.ltInt hi a k (Sort.siftDown Sort.ltInt hi a k dk))) := hI.out
      have hss : Hid ((Sort.siftDown Sort.ltInt hi a k dk).size = len) := by
        unfold Hid; rw [sift_size _ _ _ _ _ (Nat.le_refl _)]; exact hsz2
      generalize Sort.siftDown Sort.ltInt hi a k dk = d2 at hc H1 hss
      clear hsz2
      go_wp2_with fail
      refine hc.out.mono ?_
      rintro e w2 ⟨rfl, hr2, hF2⟩
      replace hr2 := Lib.hid hr2
      have hF3 := Lib.hid (hF.out.trans hF2 fun _ _ h => h)
      clear hF2 hc
      go_wp2
      go_roundw
      case rel => exact ⟨k, d2, by omega, by go_num, hr2, hss, hF3, H1⟩
      case measure => simp [intOf]
end Go.Proofs.Ytioflglfnalcaaa

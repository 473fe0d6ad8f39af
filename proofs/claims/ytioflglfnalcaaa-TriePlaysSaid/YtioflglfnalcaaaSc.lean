/- slices.Sort at int32: siftDownOrdered, heapSortOrdered, reverseRangeOrdered. -/
import Derived.Sort.AssemblyPlain
import Derived.Test.YtioflglfnalcaaaSb
namespace Go.Proofs.Ytioflglfnalcaaa
open Go.RowKit

/-- The row is d' now; nothing else has turned. -/
def SortP (w : World) (g : Nat) (d' : Array Int) (e : Ending) (w' : World) : Prop := e = .returned (.tuple #[]) ∧ RowI w' g d' ∧ Fr (· = g) w w'

theorem swp_size (d : Array Int) (i j : Nat) : (Sort.swp d i j).size = d.size := by simp [Sort.swp]

/-- cmp.Less behind draws. -/
theorem less_q (x y : Int) (w : World) (n k : Nat) : Calls Try.prog 75 #[.int .i32 x, .int .i32 y] (w.drewN (n + k)) fun e w' => e = .returned (.bool (decide (x < y))) ∧ ∃ m, w' = w.drewN (n + m) :=
  (less_i x y _).mono fun _ _ ⟨he, hm⟩ => ⟨he, k, hm⟩

/-- A round of siftDown's loop that swaps: with which child. -/
def SiftTo (d : Array Int) (hi first k c : Nat) : Prop :=
  (c = 2 * k + 1 ∧ (2 * k + 2 < hi → ¬ d[first + (2 * k + 1)]! < d[first + (2 * k + 2)]!)) ∨ (c = 2 * k + 2 ∧ d[first + (2 * k + 1)]! < d[first + (2 * k + 2)]!)

theorem sift_stop {d : Array Int} {hi first k : Nat} (h : ¬ 2 * k + 1 < hi) : Sort.siftDown Sort.ltInt hi first k d = d := by
  rw [Sort.siftDown, dif_pos (by omega)]
theorem sift_ret {d : Array Int} {hi first k c : Nat} (h : 2 * k + 1 < hi) (hc : SiftTo d hi first k c) (hc2 : c < hi) (hl : ¬ d[first + k]! < d[first + c]!) : Sort.siftDown Sort.ltInt hi first k d = d := by
  rw [Sort.siftDown, dif_neg (by omega)]
  rcases hc with ⟨rfl, hc⟩ | ⟨rfl, hc⟩
  · rw [if_neg, if_pos (by simp [Sort.ltInt, hl])]
    simp only [Bool.and_eq_true, decide_eq_true_eq, Sort.ltInt, not_and]
    intro h1
    exact hc (by omega)
  · rw [if_pos, if_pos (by simp [Sort.ltInt, hl])]
    simp only [Bool.and_eq_true, decide_eq_true_eq, Sort.ltInt]
    exact ⟨by omega, hc⟩
theorem sift_go {d : Array Int} {hi first k c : Nat} (h : 2 * k + 1 < hi) (hc : SiftTo d hi first k c) (hc2 : c < hi) (hl : d[first + k]! < d[first + c]!) :
    Sort.siftDown Sort.ltInt hi first k d = Sort.siftDown Sort.ltInt hi first c (Sort.swp d (first + k) (first + c)) := by
  conv => lhs; rw [Sort.siftDown, dif_neg (by omega)]
  rcases hc with ⟨rfl, hc⟩ | ⟨rfl, hc⟩
  · rw [if_neg, if_neg (by simp [Sort.ltInt, hl])]
    simp only [Bool.and_eq_true, decide_eq_true_eq, Sort.ltInt, not_and]
    intro h1
    exact hc (by omega)
  · rw [if_pos, if_neg (by simp [Sort.ltInt, hl]), dif_pos (by omega)]
    simp only [Bool.and_eq_true, decide_eq_true_eq, Sort.ltInt]
    exact ⟨by omega, hc⟩

set_option maxHeartbeats 1000000 in
set_option maxRecDepth 100000 in
theorem sift_i (w : World) (g cap len : Nat) (d : Array Int) (lo hi first : Nat) (hd : RowI w g d) (hlen : d.size = len) (hsz : len ≤ 35184372088832) (h1 : first + hi ≤ len) (hlo : lo ≤ len) :
    Calls Try.prog 80 #[.slice (some ⟨g, 0, none⟩) len cap, .int .i64 lo, .int .i64 hi, .int .i64 first] w (SortP w g (Sort.siftDown Sort.ltInt hi first lo d)) := by
  obtain ⟨D, hD⟩ : ∃ D, D = Sort.siftDown Sort.ltInt hi first lo d := ⟨_, rfl⟩
  rw [← hD]
  have H0 := Lib.hid hD
  have Hd := Lib.hid hd
  have Hlen := Lib.hid hlen
  clear hd hlen hD
  go_enter Try.func80, Try.ntmps80
  go_wp2
  go_loopw [8] (fun r wr => ∃ k : Nat, ∃ dk : Array Int, k ≤ len ∧ r = .int .i64 k ∧ Hid (RowI wr g dk) ∧ Hid (dk.size = len) ∧ Hid (Fr (· = g) w wr) ∧ Hid (D = Sort.siftDown Sort.ltInt hi first k dk)) (fun r _ => hi - (intOf r).toNat)
  case atStart => exact ⟨lo, d, hlo, rfl, Hd, Hlen, Fr.refl _ _, H0⟩
  case round =>
    obtain ⟨k, dk, hk, rfl, hr, hl, hF, hI⟩ := hrel
    by_cases hc : 2 * k + 1 < hi
    · have hsz2 := hl.out
      obtain ⟨p0, hp0⟩ : ∃ p, p = first + k := ⟨_, rfl⟩
      obtain ⟨p1, hp1⟩ : ∃ p, p = first + (2 * k + 1) := ⟨_, rfl⟩
      have c0 := hr.out.cell (i := p0) (by omega)
      have c1 := hr.out.cell (i := p1) (by omega)
      have f0 := hr.out.free p0
      have f1 := hr.out.free p1
      have w0 : IntKind.i64.wrap ((first : Int) + (k : Int)) = (p0 : Int) := by rw [IntWalk.i64_in _ ⟨by omega, by omega⟩]; omega
      have w1 : IntKind.i64.wrap ((first : Int) + (2 * (k : Int) + 1)) = (p1 : Int) := by rw [IntWalk.i64_in _ ⟨by omega, by omega⟩]; omega
      have e0 : (first : Int) + (k : Int) = (p0 : Int) := by omega
      have e1 : (first : Int) + (2 * (k : Int) + 1) = (p1 : Int) := by omega
      have v0 : IntKind.i64.wrap (p0 : Int) = (p0 : Int) := IntWalk.i64_in _ ⟨by omega, by omega⟩
      have v1 : IntKind.i64.wrap (p1 : Int) = (p1 : Int) := IntWalk.i64_in _ ⟨by omega, by omega⟩
      have wc : IntKind.i64.wrap (2 * (k : Int) + 1 + 1) = 2 * (k : Int) + 1 + 1 := IntWalk.i64_in _ ⟨by omega, by omega⟩
      have b0 : (p0 : Int) < (len : Int) := by omega
      have b1 : (p1 : Int) < (len : Int) := by omega
      have n0 : (0 : Int) ≤ (p0 : Int) := by omega
      have n1 : (0 : Int) ≤ (p1 : Int) := by omega
      have l0 : p0 < len := by omega
      have l1 : p1 < len := by omega
      by_cases h2 : 2 * k + 2 < hi
      · obtain ⟨p2, hp2⟩ : ∃ p, p = first + (2 * k + 2) := ⟨_, rfl⟩
        have c2 := hr.out.cell (i := p2) (by omega)
        have f2 := hr.out.free p2
        have w2 : IntKind.i64.wrap ((first : Int) + (2 * (k : Int) + 1 + 1)) = (p2 : Int) := by rw [IntWalk.i64_in _ ⟨by omega, by omega⟩]; omega
        have w3 : IntKind.i64.wrap ((p1 : Int) + 1) = (p2 : Int) := by rw [IntWalk.i64_in _ ⟨by omega, by omega⟩]; omega
        have e2 : (first : Int) + (2 * (k : Int) + 1 + 1) = (p2 : Int) := by omega
        have e3 : (p1 : Int) + 1 = (p2 : Int) := by omega
        have v2 : IntKind.i64.wrap (p2 : Int) = (p2 : Int) := IntWalk.i64_in _ ⟨by omega, by omega⟩
        have b2 : (p2 : Int) < (len : Int) := by omega
        have n2 : (0 : Int) ≤ (p2 : Int) := by omega
        have l2 : p2 < len := by omega
        have hg : decide (2 * (k : Int) + 1 + 1 < (hi : Int)) = true := by simp; omega
        by_cases hx : dk[p1]! < dk[p2]!
        · by_cases hl0 : dk[p0]! < dk[p2]!
          · have hs := Lib.hid (swp_row (i := p0) (j := p2) hr.out (by omega) (by omega))
            have hss : Hid ((Sort.swp dk p0 p2).size = len) := by unfold Hid; rw [swp_size]; exact hsz2
            have H1 : Hid (D = Sort.siftDown Sort.ltInt hi first (2 * k + 2) (Sort.swp dk p0 p2)) := by
              unfold Hid; rw [hI.out, sift_go hc (.inr ⟨rfl, by rw [← hp1, ← hp2]; exact hx⟩) (by omega) (by rw [← hp0, ← hp2]; exact hl0), ← hp0, ← hp2]
            generalize dk[p0]! = x0 at c0 hs hl0
            generalize dk[p1]! = x1 at c1  hx
            generalize dk[p2]! = x2 at c2 hx hs hl0
            clear hsz2 hp0 hp1 hp2
            go_wp2
            go_quiet ((go_at_call 75; first | exact Calls.quiet_of_same (less_i _ _ _) | exact less_q _ _ _ _ _))
            go_wp2
            go_quiet ((go_at_call 75; first | exact Calls.quiet_of_same (less_i _ _ _) | exact less_q _ _ _ _ _))
            go_wp2
            go_region
            all_goals go_wp2
            go_roundw
            case rel => exact ⟨2 * k + 2, _, by omega, by go_num, hs, hss, ((hF.out.drewN _).setCell (p := ⟨g, p0, none⟩) (.inl rfl) _).setCell (p := ⟨g, p2, none⟩) (.inl rfl) _, H1⟩
            case measure => simp [intOf]; omega
          · have H1 : Hid (RowI wr g D) := by
              unfold Hid; rw [hI.out, sift_ret hc (.inr ⟨rfl, by rw [← hp1, ← hp2]; exact hx⟩) (by omega) (by rw [← hp0, ← hp2]; exact hl0)]; exact hr.out
            generalize dk[p0]! = x0 at c0 hl0
            generalize dk[p1]! = x1 at c1  hx
            generalize dk[p2]! = x2 at c2 hx hl0
            have hl1 : decide (x0 < x2) = false := by simp; omega
            clear hsz2 hp0 hp1 hp2
            go_wp2
            go_quiet ((go_at_call 75; first | exact Calls.quiet_of_same (less_i _ _ _) | exact less_q _ _ _ _ _))
            go_wp2
            go_quiet ((go_at_call 75; first | exact Calls.quiet_of_same (less_i _ _ _) | exact less_q _ _ _ _ _))
            go_wp2
            refine bodyPost_ret (results_none rfl _ _ _) rfl ?_
            first | exact ⟨rfl, H1.out, hF.out.drewN _⟩ | exact ⟨rfl, H1.out, (hF.out.drewN _).drewN _⟩
        · by_cases hl0 : dk[p0]! < dk[p1]!
          · have hs := Lib.hid (swp_row (i := p0) (j := p1) hr.out (by omega) (by omega))
            have hss : Hid ((Sort.swp dk p0 p1).size = len) := by unfold Hid; rw [swp_size]; exact hsz2
            have H1 : Hid (D = Sort.siftDown Sort.ltInt hi first (2 * k + 1) (Sort.swp dk p0 p1)) := by
              unfold Hid; rw [hI.out, sift_go hc (.inl ⟨rfl, fun _ => by rw [← hp1, ← hp2]; exact hx⟩) (by omega) (by rw [← hp0, ← hp1]; exact hl0), ← hp0, ← hp1]
            generalize dk[p0]! = x0 at c0 hs hl0
            generalize dk[p1]! = x1 at c1 hs hl0 hx
            generalize dk[p2]! = x2 at c2 hx 
            have hx1 : decide (x1 < x2) = false := by simp; omega
            clear hsz2 hp0 hp1 hp2
            go_wp2
            go_quiet ((go_at_call 75; first | exact Calls.quiet_of_same (less_i _ _ _) | exact less_q _ _ _ _ _))
            go_wp2
            go_quiet ((go_at_call 75; first | exact Calls.quiet_of_same (less_i _ _ _) | exact less_q _ _ _ _ _))
            go_wp2
            go_region
            all_goals go_wp2
            go_roundw
            case rel => exact ⟨2 * k + 1, _, by omega, by go_num, hs, hss, ((hF.out.drewN _).setCell (p := ⟨g, p0, none⟩) (.inl rfl) _).setCell (p := ⟨g, p1, none⟩) (.inl rfl) _, H1⟩
            case measure => simp [intOf]; omega
          · have H1 : Hid (RowI wr g D) := by
              unfold Hid; rw [hI.out, sift_ret hc (.inl ⟨rfl, fun _ => by rw [← hp1, ← hp2]; exact hx⟩) (by omega) (by rw [← hp0, ← hp1]; exact hl0)]; exact hr.out
            generalize dk[p0]! = x0 at c0 hl0
            generalize dk[p1]! = x1 at c1 hl0 hx
            generalize dk[p2]! = x2 at c2 hx 
            have hl1 : decide (x0 < x1) = false := by simp; omega
            have hx1 : decide (x1 < x2) = false := by simp; omega
            clear hsz2 hp0 hp1 hp2
            go_wp2
            go_quiet ((go_at_call 75; first | exact Calls.quiet_of_same (less_i _ _ _) | exact less_q _ _ _ _ _))
            go_wp2
            go_quiet ((go_at_call 75; first | exact Calls.quiet_of_same (less_i _ _ _) | exact less_q _ _ _ _ _))
            go_wp2
            refine bodyPost_ret (results_none rfl _ _ _) rfl ?_
            first | exact ⟨rfl, H1.out, hF.out.drewN _⟩ | exact ⟨rfl, H1.out, (hF.out.drewN _).drewN _⟩
      · have hg : decide (2 * (k : Int) + 1 + 1 < (hi : Int)) = false := by simp; omega
        by_cases hl0 : dk[p0]! < dk[p1]!
        · have hs := Lib.hid (swp_row (i := p0) (j := p1) hr.out (by omega) (by omega))
          have hss : Hid ((Sort.swp dk p0 p1).size = len) := by unfold Hid; rw [swp_size]; exact hsz2
          have H1 : Hid (D = Sort.siftDown Sort.ltInt hi first (2 * k + 1) (Sort.swp dk p0 p1)) := by
            unfold Hid; rw [hI.out, sift_go hc (.inl ⟨rfl, fun h => absurd h h2⟩) (by omega) (by rw [← hp0, ← hp1]; exact hl0), ← hp0, ← hp1]
          generalize dk[p0]! = x0 at c0 hs hl0
          generalize dk[p1]! = x1 at c1 hs hl0
          clear hsz2 hp0 hp1
          go_wp2
          go_quiet ((go_at_call 75; first | exact Calls.quiet_of_same (less_i _ _ _) | exact less_q _ _ _ _ _))
          go_wp2
          go_quiet ((go_at_call 75; first | exact Calls.quiet_of_same (less_i _ _ _) | exact less_q _ _ _ _ _))
          go_wp2
          go_region
          all_goals go_wp2
          go_roundw
          case rel => exact ⟨2 * k + 1, _, by omega, by go_num, hs, hss, ((hF.out.drewN _).setCell (p := ⟨g, p0, none⟩) (.inl rfl) _).setCell (p := ⟨g, p1, none⟩) (.inl rfl) _, H1⟩
          case measure => simp [intOf]; omega
        · have H1 : Hid (RowI wr g D) := by
            unfold Hid; rw [hI.out, sift_ret hc (.inl ⟨rfl, fun h => absurd h h2⟩) (by omega) (by rw [← hp0, ← hp1]; exact hl0)]; exact hr.out
          generalize dk[p0]! = x0 at c0 hl0
          generalize dk[p1]! = x1 at c1 hl0
          have hl1 : decide (x0 < x1) = false := by simp; omega
          clear hsz2 hp0 hp1
          go_wp2
          go_quiet ((go_at_call 75; first | exact Calls.quiet_of_same (less_i _ _ _) | exact less_q _ _ _ _ _))
          go_wp2
          go_quiet ((go_at_call 75; first | exact Calls.quiet_of_same (less_i _ _ _) | exact less_q _ _ _ _ _))
          go_wp2
          refine bodyPost_ret (results_none rfl _ _ _) rfl ?_
          first | exact ⟨rfl, H1.out, hF.out.drewN _⟩ | exact ⟨rfl, H1.out, (hF.out.drewN _).drewN _⟩
    · have H1 : Hid (RowI wr g D) := by
        unfold Hid; rw [hI.out, sift_stop hc]; exact hr.out
      go_wp2
      go_end0
      exact ⟨rfl, H1.out, hF.out⟩
end Go.Proofs.Ytioflglfnalcaaa

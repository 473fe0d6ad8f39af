/- slices.Sort at int32: partialInsertionSortOrdered. -/
import Derived.Test.YtioflglfnalcaaaSg
namespace Go.Proofs.Ytioflglfnalcaaa
open Go.RowKit

theorem scanSorted_go {d : Array Int} {b i : Nat} (h : i < b) (hl : ¬ d[i]! < d[i - 1]!) : Sort.scanSorted Sort.ltInt d b i = Sort.scanSorted Sort.ltInt d b (i + 1) := by
  conv => lhs; rw [Sort.scanSorted]
  rw [if_pos (by simp [h, Sort.ltInt]; omega)]
theorem scanSorted_end {d : Array Int} {b i : Nat} (h : ¬ i < b ∨ d[i]! < d[i - 1]!) : Sort.scanSorted Sort.ltInt d b i = i := by
  rw [Sort.scanSorted, if_neg]
  simp only [Bool.and_eq_true, decide_eq_true_eq, Bool.not_eq_true', Sort.ltInt, decide_eq_false_iff_not]
  rcases h with h | h <;> omega
theorem shiftUp_go {d : Array Int} {b j : Nat} (h : j < b) (hl : d[j]! < d[j - 1]!) : Sort.shiftUp Sort.ltInt b j d = Sort.shiftUp Sort.ltInt b (j + 1) (Sort.swp d j (j - 1)) := by
  conv => lhs; rw [Sort.shiftUp]
  rw [if_pos h, if_neg (by simp [Sort.ltInt, hl])]
theorem shiftUp_end {d : Array Int} {b j : Nat} (h : ¬ j < b ∨ ¬ d[j]! < d[j - 1]!) : Sort.shiftUp Sort.ltInt b j d = d := by
  rw [Sort.shiftUp]
  split
  · rw [if_pos (by simp only [Sort.ltInt, Bool.not_eq_true', decide_eq_false_iff_not]; rcases h with h | h <;> omega)]
  · rfl

set_option maxHeartbeats 4000000 in
set_option maxRecDepth 100000 in
theorem pins_i (w : World) (g cap len : Nat) (d : Array Int) (a b : Nat) (hd : RowI w g d) (hlen : d.size = len) (hsz : len ≤ 35184372088832) (hab : a < b) (hb : b ≤ len) :
    Calls Try.prog 74 #[.slice (some ⟨g, 0, none⟩) len cap, .int .i64 a, .int .i64 b] w fun e w' =>
      e = .returned (.bool (Sort.partialInsertionSort Sort.ltInt d a b).2) ∧ RowI w' g (Sort.partialInsertionSort Sort.ltInt d a b).1 ∧ Fr (· = g) w w' := by
  obtain ⟨D, hD⟩ : ∃ D, D = Sort.partialInsertionSort Sort.ltInt d a b := ⟨_, rfl⟩
  rw [← hD]
  have H0 : Hid (D = Sort.partialIns Sort.ltInt a b 5 (a + 1) d) := hD
  have hr0 := Lib.hid hd
  have hl0 := Lib.hid hlen
  clear hd hlen hD
  go_enter Try.func74, Try.ntmps74
  go_wp2
  go_loopw [7, 8] (fun i j wr => ∃ k s jj : Nat, ∃ dk : Array Int, a + 1 ≤ k ∧ k ≤ b ∧ s + jj = 5 ∧ i = .int .i64 k ∧ j = .int .i64 jj ∧ Hid (RowI wr g dk) ∧ Hid (dk.size = len) ∧ Hid (Fr (· = g) w wr) ∧ Hid (D = Sort.partialIns Sort.ltInt a b s k dk)) (fun i j _ => (5 - intOf j).toNat)
  case atStart => exact ⟨a + 1, 5, 0, d, by omega, by omega, rfl, by go_num, rfl, hr0, hl0, Fr.refl _ _, H0⟩
  case round =>
    clear hr0 hl0 H0
    obtain ⟨k, s, jj, dk, hk, hkb, hsj, rfl, rfl, hr, hl, hF, hI⟩ := hrel
    cases s with
    | zero =>
      have H1 : Hid (D = (dk, false)) := hI.out
      have hj5 : jj = 5 := by omega
      subst hj5
      go_wp2
      go_ret
      rw [H1.out]
      exact ⟨rfl, hr.out, hF.out⟩
    | succ s =>
      have hd5 : decide ((jj : Int) < 5) = true := by simp; omega
      go_upto_block 2 with fail
      go_cut [7] (fun i wr => ∃ k2 : Nat, i = .int .i64 k2 ∧ k ≤ k2 ∧ k2 ≤ b ∧ Hid (RowI wr g dk) ∧ Hid (Fr (· = g) w wr) ∧ Hid (Sort.scanSorted Sort.ltInt dk b k = k2) ∧ (k2 < b → dk[k2]! < dk[k2 - 1]!))
      case first =>
        go_wp2
        go_loopw [7] (fun i wr => ∃ k3 : Nat, i = .int .i64 k3 ∧ k ≤ k3 ∧ k3 ≤ b ∧ Hid (RowI wr g dk) ∧ Hid (Fr (· = g) w wr) ∧ Hid (Sort.scanSorted Sort.ltInt dk b k = Sort.scanSorted Sort.ltInt dk b k3)) (fun i _ => b - (intOf i).toNat)
        case atStart => exact ⟨k, rfl, Nat.le_refl _, hkb, hr, hF, rfl⟩
        case round =>
          clear hr hF
          obtain ⟨k3, rfl, h31, h32, hr, hF, hS⟩ := hrel
          by_cases hle : k3 < b
          · have e1 : (k3 : Int) - 1 = ((k3 - 1 : Nat) : Int) := by omega
            have hsz2 := hl.out
            have c0 := hr.out.cell (i := k3) (by omega)
            have c1 := hr.out.cell (i := k3 - 1) (by omega)
            have l0 : k3 < len := by omega
            have l1 : k3 - 1 < len := by omega
            have n1 : (0 : Int) ≤ ((k3 - 1 : Nat) : Int) := by omega
            by_cases hlt : dk[k3]! < dk[k3 - 1]!
            · have H1 : Hid (Sort.scanSorted Sort.ltInt dk b k = k3) := hS.out.trans (scanSorted_end (.inr hlt))
              have hlt2 := Lib.hid hlt
              generalize dk[k3]! = x0 at c0 hlt
              generalize dk[k3 - 1]! = x1 at c1 hlt
              have hd0 : decide (x0 < x1) = true := by simp; omega
              clear hsz2
              go_wp2
              go_quiet ((go_at_call 75; first | exact Calls.quiet_of_same (less_i _ _ _) | exact less_q _ _ _ _ _))
              go_wp2
              go_meet
              case rel => exact ⟨k3, rfl, h31, h32, hr, hF.out.drewN _, H1, fun _ => hlt2.out⟩
            · have H1 : Hid (Sort.scanSorted Sort.ltInt dk b k = Sort.scanSorted Sort.ltInt dk b (k3 + 1)) := hS.out.trans (scanSorted_go hle hlt)
              generalize dk[k3]! = x0 at c0 hlt
              generalize dk[k3 - 1]! = x1 at c1 hlt
              have hd0 : decide (x0 < x1) = false := by simp; omega
              clear hsz2
              go_wp2
              go_quiet ((go_at_call 75; first | exact Calls.quiet_of_same (less_i _ _ _) | exact less_q _ _ _ _ _))
              go_wp2
              go_roundw
              case rel => exact ⟨k3 + 1, by go_num, by omega, by omega, hr, hF.out.drewN _, H1⟩
              case measure => simp [intOf]; omega
          · have H1 : Hid (Sort.scanSorted Sort.ltInt dk b k = k3) := hS.out.trans (scanSorted_end (.inl hle))
            have hd0 : decide ((k3 : Int) < (b : Nat)) = false := by simp; omega
            go_wp2
            go_quiet (fail)
            go_wp2
            go_meet
            case rel => exact ⟨k3, rfl, h31, h32, hr, hF.out.drewN _, H1, fun h => absurd h hle⟩
      case rest =>
        clear hr hF
        obtain ⟨k2, rfl, h21, h22, hr, hF, hS1, hlt2⟩ := hcut
        by_cases hkb2 : k2 = b
        · subst hkb2
          have H1 : Hid (D = (dk, true)) := by unfold Hid; rw [hI.out, Sort.partialIns_succ, hS1.out, if_pos rfl]
          clear hlt2
          go_wp2
          go_ret
          rw [H1.out]
          exact ⟨rfl, hr.out, hF.out⟩
        · have hk2 : k2 < b := by omega
          have hne : ((k2 : Int) == (b : Int)) = false := by simp; omega
          have hne2 : ¬ (k2 : Int) = (b : Int) := by omega
          replace hlt2 := Lib.hid (hlt2 hk2)
          have w0 : IntKind.i64.wrap ((b : Int) - (a : Int)) = (b : Int) - (a : Int) := IntWalk.i64_in _ ⟨by omega, by omega⟩
          by_cases h50 : b - a < 50
          · have H1 : Hid (D = (dk, false)) := by unfold Hid; rw [hI.out, Sort.partialIns_succ, hS1.out, if_neg hkb2, if_pos h50]
            have hd0 : decide ((b : Int) - (a : Int) < 50) = true := by simp; omega
            go_wp2
            go_ret
            rw [H1.out]
            exact ⟨rfl, hr.out, hF.out⟩
          · have H1 : Hid (D = Sort.partialIns Sort.ltInt a b s k2 (Sort.fixUp Sort.ltInt b k2 (Sort.fixDown Sort.ltInt a k2 (Sort.swp dk k2 (k2 - 1))))) := by unfold Hid; rw [hI.out, Sort.partialIns_succ, hS1.out, if_neg hkb2, if_neg h50]
            have hd0 : decide ((b : Int) - (a : Int) < 50) = false := by simp; omega
            have e1 : (k2 : Int) - 1 = ((k2 - 1 : Nat) : Int) := by omega
            have n1 : (0 : Int) ≤ ((k2 - 1 : Nat) : Int) := by omega
            have hsz2 := hl.out
            have c0 := hr.out.cell (i := k2) (by omega)
            have c1 := hr.out.cell (i := k2 - 1) (by omega)
            have f0 := hr.out.free (k2)
            have f1 := hr.out.free (k2 - 1)
            have hs := Lib.hid (swp_row (i := k2) (j := k2 - 1) hr.out (by omega) (by omega))
            have hss : Hid ((Sort.swp dk (k2) (k2 - 1)).size = len) := by unfold Hid; rw [swp_size]; exact hsz2

            obtain ⟨d1, hd1⟩ : ∃ d1, d1 = Sort.swp dk k2 (k2 - 1) := ⟨_, rfl⟩
            rw [← hd1] at hs hss H1
            generalize dk[k2]! = x0 at c0 hs
            generalize dk[k2 - 1]! = x1 at c1 hs
            have l0 : k2 < len := by omega
            have l1 : k2 - 1 < len := by omega
            clear hsz2 hd1 hS1 hlt2 hI
            go_wp2
            go_region
            have hF2 := Lib.hid ((hF.out.setCell (p := ⟨g, k2, none⟩) (.inl rfl) (.int .i32 x1)).setCell (p := ⟨g, k2 - 1, none⟩) (.inl rfl) (.int .i32 x0)).drew
            go_upto_if 61 with fail
            have hs : Hid (RowI ((wc.setCell ⟨g, k2, none⟩ (.int .i32 x1)).setCell ⟨g, k2 - 1, none⟩ (.int .i32 x0)).drew g d1) := hs.out
            clear c0 c1 f0 f1 hr hF hl
            generalize ((wc.setCell ⟨g, k2, none⟩ (.int .i32 x1)).setCell ⟨g, k2 - 1, none⟩ (.int .i32 x0)).drew = W at hs hF2 ⊢
            go_cut [] (fun wr => ∃ d2 : Array Int, Hid (RowI wr g d2) ∧ Hid (d2.size = len) ∧ Hid (Fr (· = g) w wr) ∧ Hid (D = Sort.partialIns Sort.ltInt a b s k2 (Sort.fixUp Sort.ltInt b k2 d2)))
            case first =>
              by_cases h2 : 2 ≤ k2 - a
              · have hfd : Sort.fixDown Sort.ltInt a k2 d1 = Sort.shiftDown Sort.ltInt (k2 - 1) d1 := if_pos h2
                rw [hfd] at H1
                have hd1 : decide (2 ≤ (k2 : Int) - (a : Int)) = true := by simp; omega
                have hd2 : (2 : Int) ≤ (k2 : Int) - (a : Int) := by omega
                clear hfd
                go_wp2
                go_loopw [9] (fun j wr => ∃ m : Nat, ∃ dk : Array Int, m < b ∧ j = .int .i64 m ∧ Hid (RowI wr g dk) ∧ Hid (dk.size = len) ∧ Hid (Fr (· = g) w wr) ∧ Hid (D = Sort.partialIns Sort.ltInt a b s k2 (Sort.fixUp Sort.ltInt b k2 (Sort.shiftDown Sort.ltInt m dk)))) (fun j _ => (intOf j).toNat)
                case atStart => exact ⟨k2 - 1, d1, by omega, by go_num, hs, hss, hF2, H1⟩
                case round =>
                  clear hs hss hF2 H1
                  obtain ⟨m, dk, hm, rfl, hr, hl, hF, hI⟩ := hrel
                  cases m with
                  | zero =>
                    have H1 : Hid (D = Sort.partialIns Sort.ltInt a b s k2 (Sort.fixUp Sort.ltInt b k2 dk)) := hI.out
                    go_wp2
                    go_meet
                    case rel => exact ⟨dk, hr, hl, hF, H1⟩
                  | succ m =>
                    have hsz2 := hl.out
                    have c0 := hr.out.cell (i := m + 1) (by omega)
                    have c1 := hr.out.cell (i := m) (by omega)
                    have f0 := hr.out.free (m + 1)
                    have f1 := hr.out.free (m)
                    have hs := Lib.hid (swp_row (i := m + 1) (j := m) hr.out (by omega) (by omega))
                    have hss : Hid ((Sort.swp dk (m + 1) (m)).size = len) := by unfold Hid; rw [swp_size]; exact hsz2

                    have l2 : m + 1 < len := by omega
                    have l3 : m < len := by omega
                    by_cases hlt : dk[m + 1]! < dk[m]!
                    · have H1 : Hid (D = Sort.partialIns Sort.ltInt a b s k2 (Sort.fixUp Sort.ltInt b k2 (Sort.shiftDown Sort.ltInt m (Sort.swp dk (m + 1) m)))) := by
                        unfold Hid; rw [hI.out, Sort.shiftDown, if_neg (by simp [Sort.ltInt, hlt])]
                      generalize dk[m + 1]! = x0 at c0 hs hlt
                      generalize dk[m]! = x1 at c1 hs hlt
                      have hd3 : decide (x0 < x1) = true := by simp; omega
                      clear hsz2
                      go_wp2
                      go_quiet ((go_at_call 75; first | exact Calls.quiet_of_same (less_i _ _ _) | exact less_q _ _ _ _ _))
                      go_wp2
                      go_region
                      go_wp2
                      go_roundw
                      case rel => exact ⟨m, _, by omega, by go_num, hs, hss, ((hF.out.drewN _).setCell (p := ⟨g, m + 1, none⟩) (.inl rfl) _).setCell (p := ⟨g, m, none⟩) (.inl rfl) _, H1⟩
                      case measure => simp [intOf]
                    · have H1 : Hid (D = Sort.partialIns Sort.ltInt a b s k2 (Sort.fixUp Sort.ltInt b k2 dk)) := by
                        unfold Hid; rw [hI.out, Sort.shiftDown, if_pos (by simp only [Sort.ltInt, Bool.not_eq_true', decide_eq_false_iff_not]; exact hlt)]
                      generalize dk[m + 1]! = x0 at c0 hs hlt
                      generalize dk[m]! = x1 at c1 hs hlt
                      have hd3 : decide (x0 < x1) = false := by simp; omega
                      clear hsz2 hs hss
                      go_wp2
                      go_quiet ((go_at_call 75; first | exact Calls.quiet_of_same (less_i _ _ _) | exact less_q _ _ _ _ _))
                      go_wp2
                      go_meet
                      case rel => exact ⟨dk, hr, hl, hF.out.drewN _, H1⟩
              · have hfd : Sort.fixDown Sort.ltInt a k2 d1 = d1 := if_neg h2
                rw [hfd] at H1
                have hd1 : decide (2 ≤ (k2 : Int) - (a : Int)) = false := by simp; omega
                have hd2 : ¬ (2 : Int) ≤ (k2 : Int) - (a : Int) := by omega
                clear hfd
                go_wp2
                go_meet
                case rel => exact ⟨d1, hs, hss, hF2, H1⟩
            case rest =>
              clear hs hss hF2 H1
              obtain ⟨d2, hr, hl, hF, H1⟩ := hcut
              have w1 : IntKind.i64.wrap ((b : Int) - (k2 : Int)) = (b : Int) - (k2 : Int) := IntWalk.i64_in _ ⟨by omega, by omega⟩
              by_cases h2 : 2 ≤ b - k2
              · have hfd : Sort.fixUp Sort.ltInt b k2 d2 = Sort.shiftUp Sort.ltInt b (k2 + 1) d2 := if_pos h2
                rw [hfd] at H1
                have hd1 : decide (2 ≤ (b : Int) - (k2 : Int)) = true := by simp; omega
                have hd2 : (2 : Int) ≤ (b : Int) - (k2 : Int) := by omega
                clear hfd
                go_wp2
                go_loopw [10] (fun j wr => ∃ m : Nat, ∃ dk : Array Int, 0 < m ∧ m ≤ b ∧ j = .int .i64 m ∧ Hid (RowI wr g dk) ∧ Hid (dk.size = len) ∧ Hid (Fr (· = g) w wr) ∧ Hid (D = Sort.partialIns Sort.ltInt a b s k2 (Sort.shiftUp Sort.ltInt b m dk))) (fun j _ => b - (intOf j).toNat)
                case atStart => exact ⟨k2 + 1, d2, by omega, by omega, by go_num, hr, hl, hF, H1⟩
                case round =>
                  clear hr hl hF H1
                  obtain ⟨m, dk, hm0, hm, rfl, hr, hl, hF, hI⟩ := hrel
                  by_cases hmb : m < b
                  · have e2 : (m : Int) - 1 = ((m - 1 : Nat) : Int) := by omega
                    have n2 : (0 : Int) ≤ ((m - 1 : Nat) : Int) := by omega
                    have hsz2 := hl.out
                    have c0 := hr.out.cell (i := m) (by omega)
                    have c1 := hr.out.cell (i := m - 1) (by omega)
                    have f0 := hr.out.free (m)
                    have f1 := hr.out.free (m - 1)
                    have hs := Lib.hid (swp_row (i := m) (j := m - 1) hr.out (by omega) (by omega))
                    have hss : Hid ((Sort.swp dk (m) (m - 1)).size = len) := by unfold Hid; rw [swp_size]; exact hsz2

                    have l2 : m < len := by omega
                    have l3 : m - 1 < len := by omega
                    by_cases hlt : dk[m]! < dk[m - 1]!
                    · have H1 : Hid (D = Sort.partialIns Sort.ltInt a b s k2 (Sort.shiftUp Sort.ltInt b (m + 1) (Sort.swp dk m (m - 1)))) := by
                        unfold Hid; rw [hI.out, shiftUp_go hmb hlt]
                      generalize dk[m]! = x0 at c0 hs hlt
                      generalize dk[m - 1]! = x1 at c1 hs hlt
                      have hd3 : decide (x0 < x1) = true := by simp; omega
                      clear hsz2
                      go_wp2
                      go_quiet ((go_at_call 75; first | exact Calls.quiet_of_same (less_i _ _ _) | exact less_q _ _ _ _ _))
                      go_wp2
                      go_region
                      go_wp2
                      go_roundw
                      case rel => exact ⟨m + 1, _, by omega, by omega, by go_num, hs, hss, ((hF.out.drewN _).setCell (p := ⟨g, m, none⟩) (.inl rfl) _).setCell (p := ⟨g, m - 1, none⟩) (.inl rfl) _, H1⟩
                      case measure => simp [intOf]; omega
                    · have H1 : Hid (D = Sort.partialIns Sort.ltInt a b s k2 dk) := by
                        unfold Hid; rw [hI.out, shiftUp_end (.inr hlt)]
                      generalize dk[m]! = x0 at c0 hs hlt
                      generalize dk[m - 1]! = x1 at c1 hs hlt
                      have hd3 : decide (x0 < x1) = false := by simp; omega
                      clear hsz2 hs hss
                      go_wp2
                      go_quiet ((go_at_call 75; first | exact Calls.quiet_of_same (less_i _ _ _) | exact less_q _ _ _ _ _))
                      go_wp2
                      go_roundw
                      case rel => exact ⟨k2, s, jj + 1, dk, by omega, by omega, by omega, rfl, by go_num, hr, hl, hF.out.drewN _, H1⟩
                      case measure => simp [intOf]; omega
                  · have H1 : Hid (D = Sort.partialIns Sort.ltInt a b s k2 dk) := by
                      unfold Hid; rw [hI.out, shiftUp_end (.inl hmb)]
                    have hd3 : decide ((m : Int) < (b : Int)) = false := by simp; omega
                    go_wp2
                    go_roundw
                    case rel => exact ⟨k2, s, jj + 1, dk, by omega, by omega, by omega, rfl, by go_num, hr, hl, hF, H1⟩
                    case measure => simp [intOf]; omega
              · have hfd : Sort.fixUp Sort.ltInt b k2 d2 = d2 := if_neg h2
                rw [hfd] at H1
                have hd1 : decide (2 ≤ (b : Int) - (k2 : Int)) = false := by simp; omega
                have hd2 : ¬ (2 : Int) ≤ (b : Int) - (k2 : Int) := by omega
                clear hfd
                go_wp2
                go_roundw
                case rel => exact ⟨k2, s, jj + 1, d2, by omega, by omega, by omega, rfl, by go_num, hr, hl, hF, H1⟩
                case measure => simp [intOf]; omega
end Go.Proofs.Ytioflglfnalcaaa

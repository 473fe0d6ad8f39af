/- slices.Sort at int32: partitionEqualOrdered. -/
import Derived.Sort.WalkC
import Derived.Deep.DeepCutAuto
import Derived.Deep.CutBlock
import Derived.Test.YtioflglfnalcaaaSe
namespace Go.Proofs.Ytioflglfnalcaaa
open Go.RowKit

set_option maxHeartbeats 2000000 in
set_option maxRecDepth 100000 in
theorem parteq_i (w : World) (g cap len : Nat) (d : Array Int) (a b pivot : Nat) (hd : RowI w g d) (hlen : d.size = len) (hsz : len ≤ 35184372088832) (hap : a ≤ pivot) (hpb : pivot < b) (hb : b ≤ len) :
    Calls Try.prog 76 #[.slice (some ⟨g, 0, none⟩) len cap, .int .i64 a, .int .i64 b, .int .i64 pivot] w fun e w' =>
      e = .returned (.int .i64 (Sort.partitionEqual Sort.ltInt d a b pivot).1) ∧ RowI w' g (Sort.partitionEqual Sort.ltInt d a b pivot).2 ∧ Fr (· = g) w w' := by
  obtain ⟨D, hD⟩ : ∃ D, D = Sort.partitionEqual Sort.ltInt d a b pivot := ⟨_, rfl⟩
  rw [← hD]
  have H0 : Hid (D = Sort.partEqLoop Sort.ltInt a (a + 1) (b - 1) (Sort.swp d a pivot)) := hD
  have c0 := hd.cell (i := a) (by omega)
  have c1 := hd.cell (i := pivot) (by omega)
  have f0 := hd.free a
  have f1 := hd.free pivot
  have hs := Lib.hid (swp_row (i := a) (j := pivot) hd (by omega) (by omega))
  have hss : Hid ((Sort.swp d a pivot).size = len) := by unfold Hid; rw [swp_size]; exact hlen
  have cs := (hd.set (i := a) (by omega) d[pivot]!).cell (i := pivot) (by simpa using (by omega : pivot < d.size))
  generalize (d.setIfInBounds a d[pivot]!)[pivot]! = y at cs
  generalize Sort.swp d a pivot = dw at hs hss H0
  generalize d[a]! = x0 at c0 hs
  generalize d[pivot]! = x1 at c1 hs cs
  have l0 : a < len := by omega
  have l1 : pivot < len := by omega
  have e0 : (b : Int) - 1 = ((b - 1 : Nat) : Int) := by omega
  clear hd hlen hD
  go_enter Try.func76, Try.ntmps76
  go_wp2
  go_region
  go_wp2
  clear c0 c1 f0 f1 cs
  go_loopw [9, 10] (fun i j wr => ∃ k m : Nat, ∃ dk : Array Int, a + 1 ≤ k ∧ k ≤ m + 1 ∧ m < b ∧ i = .int .i64 k ∧ j = .int .i64 m ∧ Hid (RowI wr g dk) ∧ Hid (dk.size = len) ∧ Hid (Fr (· = g) w wr) ∧ Hid (D = Sort.partEqLoop Sort.ltInt a k m dk)) (fun i j _ => (intOf j + 1 - intOf i).toNat)
  case atStart => exact ⟨a + 1, b - 1, dw, by omega, by omega, by omega, by go_num, by go_num, hs, hss, (((Fr.refl (· = g) w).setCell (p := ⟨g, a, none⟩) (.inl rfl) _).setCell (p := ⟨g, pivot, none⟩) (.inl rfl) _).drew, H0⟩
  case round =>
    clear hs hss H0
    obtain ⟨k, m, dk, hk, hkm, hm, rfl, rfl, hr, hl, hF, hI⟩ := hrel
    go_upto_block 2 with fail
    go_cut [9] (fun i wr => ∃ k2 : Nat, i = .int .i64 k2 ∧ k ≤ k2 ∧ k2 ≤ m + 1 ∧ Hid (RowI wr g dk) ∧ Hid (Fr (· = g) w wr) ∧ Hid (k2 = Sort.scanUp (fun x => !Sort.ltInt dk[a]! x) dk m k))
    case first =>
      go_wp2
      go_loopw [9] (fun i wr => ∃ k3 : Nat, i = .int .i64 k3 ∧ k ≤ k3 ∧ k3 ≤ m + 1 ∧ Hid (RowI wr g dk) ∧ Hid (Fr (· = g) w wr) ∧ Hid (Sort.scanUp (fun x => !Sort.ltInt dk[a]! x) dk m k3 = Sort.scanUp (fun x => !Sort.ltInt dk[a]! x) dk m k)) (fun i _ => m + 1 - (intOf i).toNat)
      case atStart => exact ⟨k, rfl, Nat.le_refl _, by omega, hr, hF, rfl⟩
      case round =>
        clear hr hF
        obtain ⟨k3, rfl, h31, h32, hr, hF, hS⟩ := hrel
        by_cases hle : k3 ≤ m
        · have c0 := hr.out.cell (i := a) (by rw [hl.out]; omega)
          have c1 := hr.out.cell (i := k3) (by rw [hl.out]; omega)
          have l0 : a < len := by omega
          have l1 : k3 < len := by omega
          by_cases hlt : ¬ dk[a]! < dk[k3]!
          · have H1 : Hid (Sort.scanUp (fun x => !Sort.ltInt dk[a]! x) dk m (k3 + 1) = Sort.scanUp (fun x => !Sort.ltInt dk[a]! x) dk m k) := (scanUp_go (fun x => !Sort.ltInt dk[a]! x) dk m k3 hle (by simp [Sort.ltInt, hlt])).symm.trans hS.out
            generalize dk[a]! = xa at c0 hlt H1
            generalize dk[k3]! = xk at c1 hlt
            have hd0 : decide (xa < xk) = false := by simp; omega
            go_wp2
            go_quiet ((go_at_call 75; first | exact Calls.quiet_of_same (less_i _ _ _) | exact less_q _ _ _ _ _))
            go_wp2
            go_roundw
            case rel => exact ⟨k3 + 1, by go_num, by omega, by omega, hr, hF.out.drewN _, H1⟩
            case measure => simp [intOf]; omega
          · have H1 : Hid (k3 = Sort.scanUp (fun x => !Sort.ltInt dk[a]! x) dk m k) := (scanUp_end (fun x => !Sort.ltInt dk[a]! x) dk m k3 (.inr (by simp [Sort.ltInt]; omega))).symm.trans hS.out
            generalize dk[a]! = xa at c0 hlt
            generalize dk[k3]! = xk at c1 hlt
            have hd0 : decide (xa < xk) = true := by simp; omega
            go_wp2
            go_quiet ((go_at_call 75; first | exact Calls.quiet_of_same (less_i _ _ _) | exact less_q _ _ _ _ _))
            go_wp2
            go_meet
            case rel => exact ⟨k3, rfl, h31, h32, hr, hF.out.drewN _, H1⟩
        · have H1 : Hid (k3 = Sort.scanUp (fun x => !Sort.ltInt dk[a]! x) dk m k) := (scanUp_end (fun x => !Sort.ltInt dk[a]! x) dk m k3 (.inl hle)).symm.trans hS.out
          have hd0 : decide ((k3 : Int) ≤ (m : Nat)) = false := by simp; omega
          go_wp2
          go_quiet (fail)
          go_wp2
          go_meet
          case rel => exact ⟨k3, rfl, h31, h32, hr, hF.out.drewN _, H1⟩
    case rest =>
      clear hr hF
      obtain ⟨k2, rfl, h21, h22, hr, hF, hS1⟩ := hcut
      go_upto_block 4 with fail
      go_cut [10] (fun i wr => ∃ m2 : Nat, i = .int .i64 m2 ∧ m2 ≤ m ∧ k2 ≤ m2 + 1 ∧ Hid (RowI wr g dk) ∧ Hid (Fr (· = g) w wr) ∧ Hid (m2 = Sort.scanDown (fun x => Sort.ltInt dk[a]! x) dk k2 m))
      case first =>
        go_wp2
        go_loopw [10] (fun i wr => ∃ m3 : Nat, i = .int .i64 m3 ∧ m3 ≤ m ∧ k2 ≤ m3 + 1 ∧ Hid (RowI wr g dk) ∧ Hid (Fr (· = g) w wr) ∧ Hid (Sort.scanDown (fun x => Sort.ltInt dk[a]! x) dk k2 m3 = Sort.scanDown (fun x => Sort.ltInt dk[a]! x) dk k2 m)) (fun i _ => (intOf i).toNat)
        case atStart => exact ⟨m, rfl, Nat.le_refl _, by omega, hr, hF, rfl⟩
        case round =>
          clear hr hF
          obtain ⟨m3, rfl, h31, h32, hr, hF, hS⟩ := hrel
          by_cases hle : k2 ≤ m3
          · have c0 := hr.out.cell (i := a) (by rw [hl.out]; omega)
            have c1 := hr.out.cell (i := m3) (by rw [hl.out]; omega)
            have l0 : a < len := by omega
            have l1 : m3 < len := by omega
            by_cases hlt : dk[a]! < dk[m3]!
            · have H1 : Hid (Sort.scanDown (fun x => Sort.ltInt dk[a]! x) dk k2 (m3 - 1) = Sort.scanDown (fun x => Sort.ltInt dk[a]! x) dk k2 m) := (scanDown_go (fun x => Sort.ltInt dk[a]! x) dk k2 m3 hle (by omega) (by simp [Sort.ltInt]; omega)).symm.trans hS.out
              generalize dk[a]! = xa at c0 hlt H1
              generalize dk[m3]! = xk at c1 hlt
              have hd0 : decide (xa < xk) = true := by simp; omega
              go_wp2
              go_quiet ((go_at_call 75; first | exact Calls.quiet_of_same (less_i _ _ _) | exact less_q _ _ _ _ _))
              go_wp2
              go_roundw
              case rel => exact ⟨m3 - 1, by go_num, by omega, by omega, hr, hF.out.drewN _, H1⟩
              case measure => simp [intOf]; omega
            · have H1 : Hid (m3 = Sort.scanDown (fun x => Sort.ltInt dk[a]! x) dk k2 m) := (scanDown_end (fun x => Sort.ltInt dk[a]! x) dk k2 m3 (.inr (by simp [Sort.ltInt]; omega))).symm.trans hS.out
              generalize dk[a]! = xa at c0 hlt
              generalize dk[m3]! = xk at c1 hlt
              have hd0 : decide (xa < xk) = false := by simp; omega
              go_wp2
              go_quiet ((go_at_call 75; first | exact Calls.quiet_of_same (less_i _ _ _) | exact less_q _ _ _ _ _))
              go_wp2
              go_meet
              case rel => exact ⟨m3, rfl, h31, h32, hr, hF.out.drewN _, H1⟩
          · have H1 : Hid (m3 = Sort.scanDown (fun x => Sort.ltInt dk[a]! x) dk k2 m) := (scanDown_end (fun x => Sort.ltInt dk[a]! x) dk k2 m3 (.inl hle)).symm.trans hS.out
            have hd0 : decide ((k2 : Int) ≤ (m3 : Nat)) = false := by simp; omega
            go_wp2
            go_quiet (fail)
            go_wp2
            go_meet
            case rel => exact ⟨m3, rfl, h31, h32, hr, hF.out.drewN _, H1⟩
      case rest =>
        clear hr hF
        obtain ⟨m2, rfl, h41, h42, hr, hF, hS2⟩ := hcut
        by_cases hbr : m2 < k2
        · have e := partEq_break Sort.ltInt a k m dk hS1.out hS2.out hbr
          have H1 : Hid (D = (k2, dk)) := hI.out.trans e
          have hd0 : decide ((m2 : Int) < (k2 : Int)) = true := by simp; omega
          clear e
          go_wp2
          go_ret
          rw [H1.out]
          exact ⟨rfl, hr.out, hF.out⟩
        · have H1 : Hid (D = Sort.partEqLoop Sort.ltInt a (k2 + 1) (m2 - 1) (Sort.swp dk k2 m2)) := hI.out.trans (partEq_go Sort.ltInt a k m dk hS1.out hS2.out hbr)
          have hlt3 := scans_lt Sort.ltInt a k m dk (by omega) hS1.out hS2.out (by omega)
          have hsz2 := hl.out
          have c0 := hr.out.cell (i := k2) (by omega)
          have c1 := hr.out.cell (i := m2) (by omega)
          have f0 := hr.out.free k2
          have f1 := hr.out.free m2
          have hs := Lib.hid (swp_row (i := k2) (j := m2) hr.out (by omega) (by omega))
          have hss : Hid ((Sort.swp dk k2 m2).size = len) := by unfold Hid; rw [swp_size]; exact hsz2
          generalize dk[k2]! = x0 at c0 hs
          generalize dk[m2]! = x1 at c1 hs
          have l2 : k2 < len := by omega
          have l3 : m2 < len := by omega
          have e1 : (m2 : Int) - 1 = ((m2 - 1 : Nat) : Int) := by omega
          have hd0 : decide ((m2 : Int) < (k2 : Int)) = false := by simp; omega
          clear hsz2
          go_wp2
          go_region
          go_wp2
          go_roundw
          case rel => exact ⟨k2 + 1, m2 - 1, _, by omega, by omega, by omega, by go_num, by go_num, hs, hss, ((hF.out.drewN _).setCell (p := ⟨g, k2, none⟩) (.inl rfl) _).setCell (p := ⟨g, m2, none⟩) (.inl rfl) _, H1⟩
          case measure => simp [intOf]; omega
end Go.Proofs.Ytioflglfnalcaaa

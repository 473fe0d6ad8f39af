/- slices.Sort at int32: partitionOrdered. -/
import Derived.Test.YtioflglfnalcaaaSf
namespace Go.Proofs.Ytioflglfnalcaaa
open Go.RowKit

theorem part_break (a i j : Nat) (dk : Array Int) {i2 j2 : Nat} (hi2 : i2 = Sort.scanUp (fun x => Sort.ltInt x dk[a]!) dk j i) (hj2 : j2 = Sort.scanDown (fun x => !Sort.ltInt x dk[a]!) dk i2 j) (h : j2 < i2) : Sort.partLoop Sort.ltInt a i j dk = (j2, dk) := by
  subst hi2; subst hj2
  rw [Sort.partLoop_eq, if_pos h]
theorem part_go (a i j : Nat) (dk : Array Int) {i2 j2 : Nat} (hi2 : i2 = Sort.scanUp (fun x => Sort.ltInt x dk[a]!) dk j i) (hj2 : j2 = Sort.scanDown (fun x => !Sort.ltInt x dk[a]!) dk i2 j) (h : ¬ j2 < i2) : Sort.partLoop Sort.ltInt a i j dk = Sort.partLoop Sort.ltInt a (i2 + 1) (j2 - 1) (Sort.swp dk i2 j2) := by
  subst hi2; subst hj2
  rw [Sort.partLoop_eq, if_neg h]
theorem part_lt (a i j : Nat) (dk : Array Int) (h0 : 0 < i) {i2 j2 : Nat} (hi2 : i2 = Sort.scanUp (fun x => Sort.ltInt x dk[a]!) dk j i) (hj2 : j2 = Sort.scanDown (fun x => !Sort.ltInt x dk[a]!) dk i2 j) (h : i2 ≤ j2) : i2 < j2 := by
  have hu := Sort.scanUp_spec (fun x => Sort.ltInt x dk[a]!) dk j _ i rfl
  have hv := Sort.scanDown_spec (fun x => !Sort.ltInt x dk[a]!) dk i2 j
  rw [← hi2] at hu
  rw [← hj2] at hv
  obtain ⟨u1, _, _, u4⟩ := hu
  obtain ⟨v1, _, _, v4⟩ := hv
  rcases Nat.lt_or_ge i2 j2 with h' | h'
  · exact h'
  · have e : j2 = i2 := by omega
    subst e
    have f1 := u4 v1
    have f2 := v4 (Nat.le_refl _) (by omega)
    simp only [f1] at f2
    cases f2
theorem part_early (d : Array Int) (a b pivot : Nat) {dk : Array Int} (hd : dk = Sort.swp d a pivot) {i2 j2 : Nat} (hi2 : i2 = Sort.scanUp (fun x => Sort.ltInt x dk[a]!) dk (b - 1) (a + 1)) (hj2 : j2 = Sort.scanDown (fun x => !Sort.ltInt x dk[a]!) dk i2 (b - 1)) (h : j2 < i2) :
    Sort.partition Sort.ltInt d a b pivot = (j2, true, Sort.swp dk j2 a) := by
  subst hd; subst hi2; subst hj2
  unfold Sort.partition
  simp only [if_pos h]
theorem part_late (d : Array Int) (a b pivot : Nat) {dk : Array Int} (hd : dk = Sort.swp d a pivot) {i2 j2 : Nat} (hi2 : i2 = Sort.scanUp (fun x => Sort.ltInt x dk[a]!) dk (b - 1) (a + 1)) (hj2 : j2 = Sort.scanDown (fun x => !Sort.ltInt x dk[a]!) dk i2 (b - 1)) (h : ¬ j2 < i2) :
    Sort.partition Sort.ltInt d a b pivot = ((Sort.partLoop Sort.ltInt a (i2 + 1) (j2 - 1) (Sort.swp dk i2 j2)).1, false, Sort.swp (Sort.partLoop Sort.ltInt a (i2 + 1) (j2 - 1) (Sort.swp dk i2 j2)).2 (Sort.partLoop Sort.ltInt a (i2 + 1) (j2 - 1) (Sort.swp dk i2 j2)).1 a) := by
  subst hd; subst hi2; subst hj2
  unfold Sort.partition
  simp only [if_neg h]

set_option maxHeartbeats 4000000 in
set_option maxRecDepth 100000 in
theorem partition_i (w : World) (g cap len : Nat) (d : Array Int) (a b pivot : Nat) (hd : RowI w g d) (hlen : d.size = len) (hsz : len ≤ 35184372088832) (hap : a ≤ pivot) (hpb : pivot < b) (hb : b ≤ len) :
    Calls Try.prog 77 #[.slice (some ⟨g, 0, none⟩) len cap, .int .i64 a, .int .i64 b, .int .i64 pivot] w fun e w' =>
      e = .returned (.tuple #[.int .i64 (Sort.partition Sort.ltInt d a b pivot).1, .bool (Sort.partition Sort.ltInt d a b pivot).2.1]) ∧ RowI w' g (Sort.partition Sort.ltInt d a b pivot).2.2 ∧ Fr (· = g) w w' := by
  obtain ⟨D, hD⟩ : ∃ D, D = Sort.partition Sort.ltInt d a b pivot := ⟨_, rfl⟩
  rw [← hD]
  have H0 := Lib.hid hD
  have c0 := hd.cell (i := a) (by omega)
  have c1 := hd.cell (i := pivot) (by omega)
  have f0 := hd.free a
  have f1 := hd.free pivot
  have hr := Lib.hid (swp_row (i := a) (j := pivot) hd (by omega) (by omega))
  have hl : Hid ((Sort.swp d a pivot).size = len) := by unfold Hid; rw [swp_size]; exact hlen
  have cs := (hd.set (i := a) (by omega) d[pivot]!).cell (i := pivot) (by simpa using (by omega : pivot < d.size))
  generalize (d.setIfInBounds a d[pivot]!)[pivot]! = y at cs
  obtain ⟨dk, hdk⟩ : ∃ dk, dk = Sort.swp d a pivot := ⟨_, rfl⟩
  rw [← hdk] at hr hl
  replace hdk := Lib.hid hdk
  generalize d[a]! = x0 at c0 hr
  generalize d[pivot]! = x1 at c1 hr cs
  have l0 : a < len := by omega
  have l1 : pivot < len := by omega
  have e0 : (b : Int) - 1 = ((b - 1 : Nat) : Int) := by omega
  have hF : Hid (Fr (· = g) w ((w.setCell ⟨g, a, none⟩ (.int .i32 x1)).setCell ⟨g, pivot, none⟩ (.int .i32 x0)).drew) := (((Fr.refl (· = g) w).setCell (p := ⟨g, a, none⟩) (.inl rfl) _).setCell (p := ⟨g, pivot, none⟩) (.inl rfl) _).drew
  have hr : Hid (RowI ((w.setCell ⟨g, a, none⟩ (.int .i32 x1)).setCell ⟨g, pivot, none⟩ (.int .i32 x0)).drew g dk) := hr.out
  clear hd hlen hD
  go_enter Try.func77, Try.ntmps77
  go_wp2
  go_region
  go_upto_block 0 with fail
  clear c0 c1 f0 f1 cs
  generalize ((w.setCell ⟨g, a, none⟩ (.int .i32 x1)).setCell ⟨g, pivot, none⟩ (.int .i32 x0)).drew = wa at hr hF ⊢
  obtain ⟨m, hm⟩ : ∃ m, m = b - 1 := ⟨_, rfl⟩
  have hm2 : m < b := by omega
  have hm3 : b ≤ m + 1 := by omega
  rw [← hm] at e0
  rw [← hm]
  replace hm := Lib.hid hm
  go_cut [10] (fun i wr => ∃ k2 : Nat, i = .int .i64 k2 ∧ (a + 1) ≤ k2 ∧ k2 ≤ m + 1 ∧ Hid (RowI wr g dk) ∧ Hid (Fr (· = g) w wr) ∧ Hid (k2 = Sort.scanUp (fun x => Sort.ltInt x dk[a]!) dk m (a + 1)))
  case first =>
    go_wp2
    go_loopw [10] (fun i wr => ∃ k3 : Nat, i = .int .i64 k3 ∧ (a + 1) ≤ k3 ∧ k3 ≤ m + 1 ∧ Hid (RowI wr g dk) ∧ Hid (Fr (· = g) w wr) ∧ Hid (Sort.scanUp (fun x => Sort.ltInt x dk[a]!) dk m k3 = Sort.scanUp (fun x => Sort.ltInt x dk[a]!) dk m (a + 1))) (fun i _ => m + 1 - (intOf i).toNat)
    case atStart => exact ⟨(a + 1), rfl, Nat.le_refl _, by omega, hr, hF, rfl⟩
    case round =>
      clear hr hF
      obtain ⟨k3, rfl, h31, h32, hr, hF, hS⟩ := hrel
      by_cases hle : k3 ≤ m
      · have c0 := hr.out.cell (i := a) (by rw [hl.out]; omega)
        have c1 := hr.out.cell (i := k3) (by rw [hl.out]; omega)
        have l0 : a < len := by omega
        have l1 : k3 < len := by omega
        by_cases hlt : dk[k3]! < dk[a]!
        · have H1 : Hid (Sort.scanUp (fun x => Sort.ltInt x dk[a]!) dk m (k3 + 1) = Sort.scanUp (fun x => Sort.ltInt x dk[a]!) dk m (a + 1)) := (scanUp_go (fun x => Sort.ltInt x dk[a]!) dk m k3 hle (by simp [Sort.ltInt, hlt])).symm.trans hS.out
          generalize dk[a]! = xa at c0 hlt H1
          generalize dk[k3]! = xk at c1 hlt
          have hd0 : decide (xk < xa) = true := by simp; omega
          go_wp2
          go_quiet ((go_at_call 75; first | exact Calls.quiet_of_same (less_i _ _ _) | exact less_q _ _ _ _ _))
          go_wp2
          go_roundw
          case rel => exact ⟨k3 + 1, by go_num, by omega, by omega, hr, hF.out.drewN _, H1⟩
          case measure => simp [intOf]; omega
        · have H1 : Hid (k3 = Sort.scanUp (fun x => Sort.ltInt x dk[a]!) dk m (a + 1)) := (scanUp_end (fun x => Sort.ltInt x dk[a]!) dk m k3 (.inr (by simp [Sort.ltInt]; omega))).symm.trans hS.out
          generalize dk[a]! = xa at c0 hlt
          generalize dk[k3]! = xk at c1 hlt
          have hd0 : decide (xk < xa) = false := by simp; omega
          go_wp2
          go_quiet ((go_at_call 75; first | exact Calls.quiet_of_same (less_i _ _ _) | exact less_q _ _ _ _ _))
          go_wp2
          go_meet
          case rel => exact ⟨k3, rfl, h31, h32, hr, hF.out.drewN _, H1⟩
      · have H1 : Hid (k3 = Sort.scanUp (fun x => Sort.ltInt x dk[a]!) dk m (a + 1)) := (scanUp_end (fun x => Sort.ltInt x dk[a]!) dk m k3 (.inl hle)).symm.trans hS.out
        have hd0 : decide ((k3 : Int) ≤ (m : Nat)) = false := by simp; omega
        go_wp2
        go_quiet (fail)
        go_wp2
        go_meet
        case rel => exact ⟨k3, rfl, h31, h32, hr, hF.out.drewN _, H1⟩
  case rest =>
    clear hr hF
    obtain ⟨k2, rfl, h21, h22, hr, hF, hS1⟩ := hcut
    go_upto_block 2 with fail
    go_cut [11] (fun i wr => ∃ m2 : Nat, i = .int .i64 m2 ∧ m2 ≤ m ∧ k2 ≤ m2 + 1 ∧ Hid (RowI wr g dk) ∧ Hid (Fr (· = g) w wr) ∧ Hid (m2 = Sort.scanDown (fun x => !Sort.ltInt x dk[a]!) dk k2 m))
    case first =>
      go_wp2
      go_loopw [11] (fun i wr => ∃ m3 : Nat, i = .int .i64 m3 ∧ m3 ≤ m ∧ k2 ≤ m3 + 1 ∧ Hid (RowI wr g dk) ∧ Hid (Fr (· = g) w wr) ∧ Hid (Sort.scanDown (fun x => !Sort.ltInt x dk[a]!) dk k2 m3 = Sort.scanDown (fun x => !Sort.ltInt x dk[a]!) dk k2 m)) (fun i _ => (intOf i).toNat)
      case atStart => exact ⟨m, rfl, Nat.le_refl _, by omega, hr, hF, rfl⟩
      case round =>
        clear hr hF
        obtain ⟨m3, rfl, h31, h32, hr, hF, hS⟩ := hrel
        by_cases hle : k2 ≤ m3
        · have c0 := hr.out.cell (i := a) (by rw [hl.out]; omega)
          have c1 := hr.out.cell (i := m3) (by rw [hl.out]; omega)
          have l0 : a < len := by omega
          have l1 : m3 < len := by omega
          by_cases hlt : ¬ dk[m3]! < dk[a]!
          · have H1 : Hid (Sort.scanDown (fun x => !Sort.ltInt x dk[a]!) dk k2 (m3 - 1) = Sort.scanDown (fun x => !Sort.ltInt x dk[a]!) dk k2 m) := (scanDown_go (fun x => !Sort.ltInt x dk[a]!) dk k2 m3 hle (by omega) (by simp [Sort.ltInt]; omega)).symm.trans hS.out
            generalize dk[a]! = xa at c0 hlt H1
            generalize dk[m3]! = xk at c1 hlt
            have hd0 : decide (xk < xa) = false := by simp; omega
            go_wp2
            go_quiet ((go_at_call 75; first | exact Calls.quiet_of_same (less_i _ _ _) | exact less_q _ _ _ _ _))
            go_wp2
            go_roundw
            case rel => exact ⟨m3 - 1, by go_num, by omega, by omega, hr, hF.out.drewN _, H1⟩
            case measure => simp [intOf]; omega
          · have H1 : Hid (m3 = Sort.scanDown (fun x => !Sort.ltInt x dk[a]!) dk k2 m) := (scanDown_end (fun x => !Sort.ltInt x dk[a]!) dk k2 m3 (.inr (by simp [Sort.ltInt]; omega))).symm.trans hS.out
            generalize dk[a]! = xa at c0 hlt
            generalize dk[m3]! = xk at c1 hlt
            have hd0 : decide (xk < xa) = true := by simp; omega
            go_wp2
            go_quiet ((go_at_call 75; first | exact Calls.quiet_of_same (less_i _ _ _) | exact less_q _ _ _ _ _))
            go_wp2
            go_meet
            case rel => exact ⟨m3, rfl, h31, h32, hr, hF.out.drewN _, H1⟩
        · have H1 : Hid (m3 = Sort.scanDown (fun x => !Sort.ltInt x dk[a]!) dk k2 m) := (scanDown_end (fun x => !Sort.ltInt x dk[a]!) dk k2 m3 (.inl hle)).symm.trans hS.out
          have hd0 : decide ((k2 : Int) ≤ (m3 : Nat)) = false := by simp; omega
          go_wp2
          go_quiet (fail)
          go_wp2
          go_meet
          case rel => exact ⟨m3, rfl, h31, h32, hr, hF.out.drewN _, H1⟩
    case rest =>
      clear hr hF
      obtain ⟨m2, rfl, h41, h42, hr, hF, hS2⟩ := hcut
      by_cases hbr : m2 < k2
      · have H1 : Hid (D = (m2, true, Sort.swp dk m2 a)) := H0.out.trans (part_early d a b pivot hdk.out (by rw [← hm.out]; exact hS1.out) (by rw [← hm.out]; exact hS2.out) hbr)
        have hd0 : decide ((m2 : Int) < (k2 : Int)) = true := by simp; omega
        have hsz2 := hl.out
        have c0 := hr.out.cell (i := m2) (by omega)
        have c1 := hr.out.cell (i := a) (by omega)
        have f0 := hr.out.free m2
        have f1 := hr.out.free a
        have hs := Lib.hid (swp_row (i := m2) (j := a) hr.out (by omega) (by omega))
        have hss : Hid ((Sort.swp dk m2 a).size = len) := by unfold Hid; rw [swp_size]; exact hsz2
        have cs := (hr.out.set (i := m2) (by omega) dk[a]!).cell (i := a) (by simpa using (by omega : a < dk.size))
        generalize (dk.setIfInBounds m2 dk[a]!)[a]! = y at cs
        generalize dk[m2]! = x0 at c0 hs
        generalize dk[a]! = x1 at c1 hs cs
        have l2 : m2 < len := by omega
        have l3 : a < len := by omega
        clear hsz2

        go_wp2
        go_region
        go_wp2
        go_ret2
        rw [H1.out]
        exact ⟨rfl, hs.out, ((hF.out.setCell (p := ⟨g, m2, none⟩) (.inl rfl) _).setCell (p := ⟨g, a, none⟩) (.inl rfl) _).drew⟩
      · have H1 := Lib.hid (H0.out.trans (part_late d a b pivot hdk.out (by rw [← hm.out]; exact hS1.out) (by rw [← hm.out]; exact hS2.out) hbr))
        have hlt3 := part_lt a (a + 1) m dk (by omega) hS1.out hS2.out (by omega)
        have hsz2 := hl.out
        have c0 := hr.out.cell (i := k2) (by omega)
        have c1 := hr.out.cell (i := m2) (by omega)
        have f0 := hr.out.free k2
        have f1 := hr.out.free m2
        have hs := Lib.hid (swp_row (i := k2) (j := m2) hr.out (by omega) (by omega))
        have hss : Hid ((Sort.swp dk k2 m2).size = len) := by unfold Hid; rw [swp_size]; exact hsz2
        have cs := (hr.out.set (i := k2) (by omega) dk[m2]!).cell (i := m2) (by simpa using (by omega : m2 < dk.size))
        generalize (dk.setIfInBounds k2 dk[m2]!)[m2]! = y at cs
        generalize dk[k2]! = x0 at c0 hs
        generalize dk[m2]! = x1 at c1 hs cs
        have l2 : k2 < len := by omega
        have l3 : m2 < len := by omega
        clear hsz2

        have e1 : (m2 : Int) - 1 = ((m2 - 1 : Nat) : Int) := by omega
        have hd0 : decide ((m2 : Int) < (k2 : Int)) = false := by simp; omega
        clear hS1 hS2 hdk H0
        generalize Sort.swp dk k2 m2 = d2 at hs hss H1
        go_wp2
        go_region
        go_upto_block 4 with fail
        go_cut [10, 11] (fun i j wr => ∃ j2 : Nat, ∃ d3 : Array Int, (∃ i2, i = .int .i64 i2) ∧ j = .int .i64 j2 ∧ a ≤ j2 ∧ j2 < b ∧ Hid (RowI wr g d3) ∧ Hid (d3.size = len) ∧ Hid (Fr (· = g) w wr) ∧ Hid (D = (j2, false, Sort.swp d3 j2 a)))
        case rest =>
          clear c0 c1 f0 f1 cs hr hF hs hss H1 hl
          obtain ⟨j2, d3, ⟨i2, rfl⟩, rfl, hj1, hj2, hr, hl, hF, H1⟩ := hcut
          have hsz2 := hl.out
          have c0 := hr.out.cell (i := j2) (by omega)
          have c1 := hr.out.cell (i := a) (by omega)
          have f0 := hr.out.free j2
          have f1 := hr.out.free a
          have hs := Lib.hid (swp_row (i := j2) (j := a) hr.out (by omega) (by omega))
          have cs := (hr.out.set (i := j2) (by omega) d3[a]!).cell (i := a) (by simpa using (by omega : a < d3.size))
          generalize (d3.setIfInBounds j2 d3[a]!)[a]! = y at cs
          generalize d3[j2]! = x0 at c0 hs
          generalize d3[a]! = x1 at c1 hs cs
          have l4 : j2 < len := by omega
          clear hsz2
          go_wp2
          go_region
          go_wp2
          go_ret2
          rw [H1.out]
          exact ⟨rfl, hs.out, ((hF.out.setCell (p := ⟨g, j2, none⟩) (.inl rfl) _).setCell (p := ⟨g, a, none⟩) (.inl rfl) _).drew⟩
        case first =>
          go_wp2
          have hF2 := Lib.hid ((hF.out.setCell (p := ⟨g, k2, none⟩) (.inl rfl) (.int .i32 x1)).setCell (p := ⟨g, m2, none⟩) (.inl rfl) (.int .i32 x0)).drew
          go_loopw [10, 11] (fun i j wr => ∃ k m : Nat, ∃ dk : Array Int, a + 1 ≤ k ∧ k ≤ m + 1 ∧ m < b ∧ i = .int .i64 k ∧ j = .int .i64 m ∧ Hid (RowI wr g dk) ∧ Hid (dk.size = len) ∧ Hid (Fr (· = g) w wr) ∧ Hid (D = ((Sort.partLoop Sort.ltInt a k m dk).1, false, Sort.swp (Sort.partLoop Sort.ltInt a k m dk).2 (Sort.partLoop Sort.ltInt a k m dk).1 a))) (fun i j _ => (intOf j + 1 - intOf i).toNat)
          case atStart => exact ⟨k2 + 1, m2 - 1, d2, by omega, by omega, by omega, by go_num, by go_num, hs, hss, hF2, H1⟩
          case round =>
            clear c0 c1 f0 f1 cs hr hF hs hss H1 hl hF2 h21 h22 h41 h42 hbr hlt3 l2 l3 e1 hd0 e0 hm hm2 hm3
            obtain ⟨k, m, dk, hk, hkm, hm, rfl, rfl, hr, hl, hF, hI⟩ := hrel
            go_upto_block 6 with fail
            go_cut [10] (fun i wr => ∃ k4 : Nat, i = .int .i64 k4 ∧ k ≤ k4 ∧ k4 ≤ m + 1 ∧ Hid (RowI wr g dk) ∧ Hid (Fr (· = g) w wr) ∧ Hid (k4 = Sort.scanUp (fun x => Sort.ltInt x dk[a]!) dk m k))
            case first =>
              go_wp2
              go_loopw [10] (fun i wr => ∃ k3 : Nat, i = .int .i64 k3 ∧ k ≤ k3 ∧ k3 ≤ m + 1 ∧ Hid (RowI wr g dk) ∧ Hid (Fr (· = g) w wr) ∧ Hid (Sort.scanUp (fun x => Sort.ltInt x dk[a]!) dk m k3 = Sort.scanUp (fun x => Sort.ltInt x dk[a]!) dk m k)) (fun i _ => m + 1 - (intOf i).toNat)
              case atStart => exact ⟨k, rfl, Nat.le_refl _, by omega, hr, hF, rfl⟩
              case round =>
                clear hr hF
                obtain ⟨k3, rfl, h31, h32, hr, hF, hS⟩ := hrel
                by_cases hle : k3 ≤ m
                · have c0 := hr.out.cell (i := a) (by rw [hl.out]; omega)
                  have c1 := hr.out.cell (i := k3) (by rw [hl.out]; omega)
                  have l0 : a < len := by omega
                  have l1 : k3 < len := by omega
                  by_cases hlt : dk[k3]! < dk[a]!
                  · have H1 : Hid (Sort.scanUp (fun x => Sort.ltInt x dk[a]!) dk m (k3 + 1) = Sort.scanUp (fun x => Sort.ltInt x dk[a]!) dk m k) := (scanUp_go (fun x => Sort.ltInt x dk[a]!) dk m k3 hle (by simp [Sort.ltInt, hlt])).symm.trans hS.out
                    generalize dk[a]! = xa at c0 hlt H1
                    generalize dk[k3]! = xk at c1 hlt
                    have hd0 : decide (xk < xa) = true := by simp; omega
                    go_wp2
                    go_quiet ((go_at_call 75; first | exact Calls.quiet_of_same (less_i _ _ _) | exact less_q _ _ _ _ _))
                    go_wp2
                    go_roundw
                    case rel => exact ⟨k3 + 1, by go_num, by omega, by omega, hr, hF.out.drewN _, H1⟩
                    case measure => simp [intOf]; omega
                  · have H1 : Hid (k3 = Sort.scanUp (fun x => Sort.ltInt x dk[a]!) dk m k) := (scanUp_end (fun x => Sort.ltInt x dk[a]!) dk m k3 (.inr (by simp [Sort.ltInt]; omega))).symm.trans hS.out
                    generalize dk[a]! = xa at c0 hlt
                    generalize dk[k3]! = xk at c1 hlt
                    have hd0 : decide (xk < xa) = false := by simp; omega
                    go_wp2
                    go_quiet ((go_at_call 75; first | exact Calls.quiet_of_same (less_i _ _ _) | exact less_q _ _ _ _ _))
                    go_wp2
                    go_meet
                    case rel => exact ⟨k3, rfl, h31, h32, hr, hF.out.drewN _, H1⟩
                · have H1 : Hid (k3 = Sort.scanUp (fun x => Sort.ltInt x dk[a]!) dk m k) := (scanUp_end (fun x => Sort.ltInt x dk[a]!) dk m k3 (.inl hle)).symm.trans hS.out
                  have hd0 : decide ((k3 : Int) ≤ (m : Nat)) = false := by simp; omega
                  go_wp2
                  go_quiet (fail)
                  go_wp2
                  go_meet
                  case rel => exact ⟨k3, rfl, h31, h32, hr, hF.out.drewN _, H1⟩
            case rest =>
              clear hr hF
              obtain ⟨k4, rfl, h21, h22, hr, hF, hS1⟩ := hcut
              go_upto_block 8 with fail
              go_cut [11] (fun i wr => ∃ m4 : Nat, i = .int .i64 m4 ∧ m4 ≤ m ∧ k4 ≤ m4 + 1 ∧ Hid (RowI wr g dk) ∧ Hid (Fr (· = g) w wr) ∧ Hid (m4 = Sort.scanDown (fun x => !Sort.ltInt x dk[a]!) dk k4 m))
              case first =>
                go_wp2
                go_loopw [11] (fun i wr => ∃ m3 : Nat, i = .int .i64 m3 ∧ m3 ≤ m ∧ k4 ≤ m3 + 1 ∧ Hid (RowI wr g dk) ∧ Hid (Fr (· = g) w wr) ∧ Hid (Sort.scanDown (fun x => !Sort.ltInt x dk[a]!) dk k4 m3 = Sort.scanDown (fun x => !Sort.ltInt x dk[a]!) dk k4 m)) (fun i _ => (intOf i).toNat)
                case atStart => exact ⟨m, rfl, Nat.le_refl _, by omega, hr, hF, rfl⟩
                case round =>
                  clear hr hF
                  obtain ⟨m3, rfl, h31, h32, hr, hF, hS⟩ := hrel
                  by_cases hle : k4 ≤ m3
                  · have c0 := hr.out.cell (i := a) (by rw [hl.out]; omega)
                    have c1 := hr.out.cell (i := m3) (by rw [hl.out]; omega)
                    have l0 : a < len := by omega
                    have l1 : m3 < len := by omega
                    by_cases hlt : ¬ dk[m3]! < dk[a]!
                    · have H1 : Hid (Sort.scanDown (fun x => !Sort.ltInt x dk[a]!) dk k4 (m3 - 1) = Sort.scanDown (fun x => !Sort.ltInt x dk[a]!) dk k4 m) := (scanDown_go (fun x => !Sort.ltInt x dk[a]!) dk k4 m3 hle (by omega) (by simp [Sort.ltInt]; omega)).symm.trans hS.out
                      generalize dk[a]! = xa at c0 hlt H1
                      generalize dk[m3]! = xk at c1 hlt
                      have hd0 : decide (xk < xa) = false := by simp; omega
                      go_wp2
                      go_quiet ((go_at_call 75; first | exact Calls.quiet_of_same (less_i _ _ _) | exact less_q _ _ _ _ _))
                      go_wp2
                      go_roundw
                      case rel => exact ⟨m3 - 1, by go_num, by omega, by omega, hr, hF.out.drewN _, H1⟩
                      case measure => simp [intOf]; omega
                    · have H1 : Hid (m3 = Sort.scanDown (fun x => !Sort.ltInt x dk[a]!) dk k4 m) := (scanDown_end (fun x => !Sort.ltInt x dk[a]!) dk k4 m3 (.inr (by simp [Sort.ltInt]; omega))).symm.trans hS.out
                      generalize dk[a]! = xa at c0 hlt
                      generalize dk[m3]! = xk at c1 hlt
                      have hd0 : decide (xk < xa) = true := by simp; omega
                      go_wp2
                      go_quiet ((go_at_call 75; first | exact Calls.quiet_of_same (less_i _ _ _) | exact less_q _ _ _ _ _))
                      go_wp2
                      go_meet
                      case rel => exact ⟨m3, rfl, h31, h32, hr, hF.out.drewN _, H1⟩
                  · have H1 : Hid (m3 = Sort.scanDown (fun x => !Sort.ltInt x dk[a]!) dk k4 m) := (scanDown_end (fun x => !Sort.ltInt x dk[a]!) dk k4 m3 (.inl hle)).symm.trans hS.out
                    have hd0 : decide ((k4 : Int) ≤ (m3 : Nat)) = false := by simp; omega
                    go_wp2
                    go_quiet (fail)
                    go_wp2
                    go_meet
                    case rel => exact ⟨m3, rfl, h31, h32, hr, hF.out.drewN _, H1⟩
              case rest =>
                clear hr hF
                obtain ⟨m4, rfl, h41, h42, hr, hF, hS2⟩ := hcut
                by_cases hbr : m4 < k4
                · have e := part_break a k m dk hS1.out hS2.out hbr
                  have H1 : Hid (D = (m4, false, Sort.swp dk m4 a)) := by unfold Hid; rw [hI.out, e]
                  have hd0 : decide ((m4 : Int) < (k4 : Int)) = true := by simp; omega
                  clear e
                  go_wp2
                  go_meet
                  case rel => exact ⟨m4, dk, ⟨_, rfl⟩, rfl, by omega, by omega, hr, hl, hF, H1⟩
                · have e := part_go a k m dk hS1.out hS2.out hbr
                  have H1 := hI.out
                  rw [e] at H1
                  replace H1 := Lib.hid H1
                  have hlt3 := part_lt a k m dk (by omega) hS1.out hS2.out (by omega)
                  have hsz2 := hl.out
                  have c0 := hr.out.cell (i := k4) (by omega)
                  have c1 := hr.out.cell (i := m4) (by omega)
                  have f0 := hr.out.free k4
                  have f1 := hr.out.free m4
                  have hs := Lib.hid (swp_row (i := k4) (j := m4) hr.out (by omega) (by omega))
                  have hss : Hid ((Sort.swp dk k4 m4).size = len) := by unfold Hid; rw [swp_size]; exact hsz2
                  have cs := (hr.out.set (i := k4) (by omega) dk[m4]!).cell (i := m4) (by simpa using (by omega : m4 < dk.size))
                  generalize (dk.setIfInBounds k4 dk[m4]!)[m4]! = y at cs
                  generalize dk[k4]! = x0 at c0 hs
                  generalize dk[m4]! = x1 at c1 hs cs
                  have l2 : k4 < len := by omega
                  have l3 : m4 < len := by omega
                  clear hsz2

                  have e1 : (m4 : Int) - 1 = ((m4 - 1 : Nat) : Int) := by omega
                  have hd0 : decide ((m4 : Int) < (k4 : Int)) = false := by simp; omega
                  clear e
                  go_wp2
                  go_region
                  go_wp2
                  go_roundw
                  case rel => exact ⟨k4 + 1, m4 - 1, _, by omega, by omega, by omega, by go_num, by go_num, hs, hss, ((hF.out.drewN _).setCell (p := ⟨g, k4, none⟩) (.inl rfl) _).setCell (p := ⟨g, m4, none⟩) (.inl rfl) _, H1⟩
                  case measure => simp [intOf]; omega
end Go.Proofs.Ytioflglfnalcaaa

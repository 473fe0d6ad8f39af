/- slices.Sort at int32: reverseRangeOrdered, partitionOrdered, partitionEqualOrdered. -/
import Derived.Test.YtioflglfnalcaaaSd
namespace Go.Proofs.Ytioflglfnalcaaa
open Go.RowKit

/-- The row's part is permuted; nothing else has turned. -/
def PermP (w : World) (g a b : Nat) (d : Array Int) (e : Ending) (w' : World) : Prop := e = .returned (.tuple #[]) ∧ ∃ d', Sort.PermIn a b d d' ∧ RowI w' g d' ∧ Fr (· = g) w w'

set_option maxHeartbeats 1000000 in
set_option maxRecDepth 100000 in
theorem rev_i (w : World) (g cap len : Nat) (d : Array Int) (a b : Nat) (hd : RowI w g d) (hlen : d.size = len) (hsz : len ≤ 35184372088832) (hab : a < b) (hb : b ≤ len) :
    Calls Try.prog 73 #[.slice (some ⟨g, 0, none⟩) len cap, .int .i64 a, .int .i64 b] w (PermP w g a b d) := by
  have Hd := Lib.hid hd
  have Hlen := Lib.hid hlen
  clear hd hlen
  have e0 : (b : Int) - 1 = ((b - 1 : Nat) : Int) := by omega
  go_enter Try.func73, Try.ntmps73
  go_wp2
  go_loopw [6, 7] (fun i j wr => ∃ k m : Nat, ∃ dk : Array Int, a ≤ k ∧ k ≤ len ∧ m < b ∧ i = .int .i64 k ∧ j = .int .i64 m ∧ Hid (RowI wr g dk) ∧ Hid (dk.size = len) ∧ Hid (Fr (· = g) w wr) ∧ Hid (Sort.PermIn a b d dk)) (fun i j _ => (intOf j - intOf i).toNat)
  case atStart => exact ⟨a, b - 1, d, by omega, by omega, by omega, by go_num, by go_num, Hd, Hlen, Fr.refl _ _, Sort.permIn_refl _ _ _⟩
  case round =>
    obtain ⟨k, m, dk, hk, hk2, hm, rfl, rfl, hr, hl, hF, hP⟩ := hrel
    by_cases hkm : k < m
    · have hsz2 := hl.out
      have c0 := hr.out.cell (i := k) (by omega)
      have c1 := hr.out.cell (i := m) (by omega)
      have f0 := hr.out.free k
      have f1 := hr.out.free m
      have hs := Lib.hid (swp_row (i := k) (j := m) hr.out (by omega) (by omega))
      have hss : Hid ((Sort.swp dk k m).size = len) := by unfold Hid; rw [swp_size]; exact hsz2
      have H1 : Hid (Sort.PermIn a b d (Sort.swp dk k m)) := Sort.permIn_trans _ _ _ _ _ hP.out (Sort.swp_permIn _ _ _ _ _ (by omega) (by omega) (by omega) (by omega) (by omega))
      obtain ⟨m, rfl⟩ : ∃ m', m = m' + 1 := ⟨m - 1, by omega⟩
      generalize dk[k]! = x0 at c0 hs
      generalize dk[m + 1]! = x1 at c1 hs
      have l0 : k < len := by omega
      have l1 : m + 1 < len := by omega
      clear hsz2
      go_wp2
      go_region
      all_goals go_wp2
      go_roundw
      case rel => exact ⟨k + 1, m, _, by omega, by omega, by omega, by go_num, by go_num, hs, hss, ((hF.out.drewN _).setCell (p := ⟨g, k, none⟩) (.inl rfl) _).setCell (p := ⟨g, m + 1, none⟩) (.inl rfl) _, H1⟩
      case measure => simp [intOf]; omega
    · go_wp2
      go_end0
      exact ⟨rfl, dk, hP.out, hr.out, hF.out⟩
end Go.Proofs.Ytioflglfnalcaaa

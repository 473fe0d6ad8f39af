/- slices.Sort at int32: nextPowerOfTwo, (*xorshift).Next, breakPatternsOrdered. -/
import Derived.Lib.ItoaNum
import Derived.OpenShut
import Derived.Laws.BitsLemmas
import Derived.Lib.VarintBits
import Derived.Test.YtioflglfnalcaaaBl
import Derived.Test.YtioflglfnalcaaaSi
namespace Go.Proofs.Ytioflglfnalcaaa
open Go.RowKit

theorem wrap_two (n : Nat) (h : n ≤ 46) : IntKind.u64.wrap ((2 : Int) ^ n) = (2 : Int) ^ n := by
  have h2 : 2 ^ n ≤ 2 ^ 46 := Nat.pow_le_pow_right (by omega) h
  have e : (2 : Int) ^ n = ((2 ^ n : Nat) : Int) := by norm_cast
  rw [e, IntKind.wrap_u64]
  generalize 2 ^ n = p at *
  omega

theorem nextpow_i (l : Nat) (hl : l ≤ 35184372088832) (h0 : 0 < l) (w : World) :
    Calls Try.prog 81 #[.int .i64 l] w fun e w' => (∃ m : Nat, e = .returned (.int .u64 (m : Int)) ∧ l < m ∧ m ≤ 2 * l) ∧ w' = w := by
  have H := Lib.hid (bits_Len (l : Int) w (by omega) (by omega))
  have hbnd := Lib.bitLenAux_bounds 64 l (by omega) (by omega)
  have hle := Lib.bitLen_le l 46 (by omega) (by omega)
  rw [show ((l : Int)).toNat = l from by omega] at H
  replace hbnd := Lib.hid hbnd
  unfold Lib.bitLen at H hle
  generalize Lib.bitLenAux 64 l = n at *
  have hw := wrap_two n hle
  go_enter Try.func81, Try.ntmps81
  go_wp2_with fail
  refine H.out.mono ?_
  rintro e w' ⟨rfl, rfl⟩
  go_wp2
  go_ret
  refine ⟨⟨2 ^ n, by simp, hbnd.out.2.2, ?_⟩, rfl⟩
  have h1 := hbnd.out.2.1
  have h3 := hbnd.out.2.2
  cases n with
  | zero => simp at h3; omega
  | succ n => rw [Nat.pow_succ]; simp at h1; omega

def XorP (w : World) (s : Nat) (e : Ending) (w' : World) : Prop := ∃ v : Int, e = .returned (.int .u64 v) ∧ 0 ≤ v ∧ v ≤ 18446744073709551615 ∧ w'.heap[s]? = some (.cells #[.int .u64 v] 128 (0, 0)) ∧ Fr (· = s) w w'

theorem u64_bits (op : BinOp) (x y : Int) : 0 ≤ bits op .u64 x y ∧ bits op .u64 x y ≤ 18446744073709551615 := by
  have h := wf_bits op .u64 x y
  generalize bits op .u64 x y = z at *
  simp [Lit.wf, IntKind.min, IntKind.max, IntKind.signed, IntKind.bits] at h
  omega

def XS (w : World) (s : Nat) (wr : World) : Prop := ∃ v : Int, 0 ≤ v ∧ v ≤ 18446744073709551615 ∧ wr.heap[s]? = some (.cells #[.int .u64 v] 128 (0, 0)) ∧ Fr (· = s) w wr
theorem XS.set {w wr : World} {s : Nat} (h : XS w s wr) (op : BinOp) (x y : Int) : XS w s (wr.setCell ⟨s, 0, none⟩ (.int .u64 (bits op .u64 x y))).drew := by
  obtain ⟨v, _, _, h3, h4⟩ := h
  have h5 := heap_set_same (o := 0) (.int .u64 (bits op .u64 x y)) h3
  exact ⟨_, (u64_bits op x y).1, (u64_bits op x y).2, by show (wr.setCell ⟨s, 0, none⟩ (.int .u64 (bits op .u64 x y))).heap[s]? = _; simpa using h5, (h4.setCell (p := ⟨s, 0, none⟩) (.inl rfl) _).drew⟩
theorem XS.cell {w wr : World} {s : Nat} (h : XS w s wr) : ∃ v : Int, 0 ≤ v ∧ v ≤ 18446744073709551615 ∧ wr.cell? ⟨s, 0, none⟩ = some (.int .u64 v) ∧ wr.frozen? ⟨s, 0, none⟩ = false := by
  obtain ⟨v, h1, h2, h3, h4⟩ := h
  exact ⟨v, h1, h2, by simp [World.cell?, h3], by simp [World.frozen?, h3]⟩

set_option maxHeartbeats 400000 in
set_option maxRecDepth 100000 in
theorem next_i (w : World) (s : Nat) (x : Int) (h0 : 0 ≤ x) (h1 : x ≤ 18446744073709551615) (hs : w.heap[s]? = some (.cells #[.int .u64 x] 128 (0, 0))) :
    Calls Try.prog 82 #[ptr s] w (XorP w s) := by
  have X0 : Hid (XS w s w) := ⟨x, h0, h1, hs, Fr.refl _ _⟩
  have cs : w.cell? ⟨s, 0, none⟩ = some (.int .u64 x) := by simp [World.cell?, hs]
  have fs : w.frozen? ⟨s, 0, none⟩ = false := by simp [World.frozen?, hs]
  clear hs
  go_enter Try.func82, Try.ntmps82
  go_upto_region 1 with fail
  go_cut [] (fun wr => Hid (XS w s wr))
  case first =>
    go_region
    go_wp2
    go_meet
    case rel => exact X0.out.set _ _ _
  case rest =>
    clear X0 cs fs
    obtain ⟨v, hv0, hv1, cs, fs⟩ := hcut.out.cell
    go_upto_region 2 with fail
    have hcut1 := hcut
    clear hcut
    go_cut [] (fun wr => Hid (XS w s wr))
    case first =>
      go_region
      go_wp2
      go_meet
      case rel => exact hcut1.out.set _ _ _
    case rest =>
      clear hcut1 cs fs
      obtain ⟨v2, hv20, hv21, cs, fs⟩ := hcut.out.cell
      go_upto_region 3 with fail
      have hcut2 := hcut
      clear hcut
      go_cut [] (fun wr => Hid (XS w s wr))
      case first =>
        go_region
        go_wp2
        go_meet
        case rel => exact hcut2.out.set _ _ _
      case rest =>
        clear hcut2 cs fs
        have hc3 := hcut.out
        obtain ⟨v3, hv30, hv31, hs, hF⟩ := hc3
        have cs : wc.cell? ⟨s, 0, none⟩ = some (.int .u64 v3) := by simp [World.cell?, hs]
        replace hs := Lib.hid hs
        replace hF := Lib.hid hF
        clear hcut
        go_wp2
        go_ret
        exact ⟨v3, rfl, hv30, hv31, hs.out, hF.out⟩
end Go.Proofs.Ytioflglfnalcaaa

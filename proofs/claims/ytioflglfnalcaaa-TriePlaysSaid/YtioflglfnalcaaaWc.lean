/- The walk of Longest at Trie[int]. -/
import Derived.Test.YtioflglfnalcaaaWb
namespace Go.Proofs.Ytioflglfnalcaaa
open Go.RowKit

theorem lon_succ_some {z : Value} {f : List Int → Option Value} {zs : List Int} {k : Nat} {v : Value} (h : f (zs.take (k + 1)) = some v) : lon z f zs (k + 1) = (v, k + 1, true) := by
  rw [lon, h]; simp
theorem lon_succ_none {z : Value} {f : List Int → Option Value} {zs : List Int} {k : Nat} (h : f (zs.take (k + 1)) = none) : lon z f zs (k + 1) = lon z f zs k := by
  rw [lon, h]; simp
theorem AT.Ok.f_none {T : AT} {t : Nat} (h : T.Ok t) {p : List Int} (hn : T.N p = none) : T.f p = none := by
  cases hx : T.f p with
  | none => rfl
  | some v => have := h.fdom p (by simp [hx]); rw [hn] at this; cases this
theorem AT.Ok.lon_end {T : AT} {t : Nat} (h : T.Ok t) {zs : List Int} {k : Nat} {z : Value} (hk : k < zs.length) (hn : T.N (zs.take (k + 1)) = none) : lon z T.f zs zs.length = lon z T.f zs k := by
  refine lon_stop (by omega) (fun j h1 h2 => h.f_none ?_)
  refine h.take_none (k := k + 1) ?_
  rw [List.take_take, Nat.min_eq_left (by omega)]; exact hn

/-- What Longest comes to. -/
def LonPost (z : Value) (w : World) (T : AT) (zs : List Int) (e : Ending) (w' : World) : Prop :=
  e = .returned (.tuple #[(lon z T.f zs zs.length).1, .int .i64 ((lon z T.f zs zs.length).2.1 : Int), .bool (lon z T.f zs zs.length).2.2]) ∧ ∃ n, w' = w.drewN n

def LonIs (z : Value) (T : AT) (zs : List Int) (k b : Nat) (v n ok : Value) : Prop :=
  T.N (zs.take k) = some b ∧ v = (lon z T.f zs k).1 ∧ n = .int .i64 ((lon z T.f zs k).2.1 : Int) ∧ ok = .bool (lon z T.f zs k).2.2

set_option maxHeartbeats 400000 in
set_option maxRecDepth 100000 in
theorem longest_i (w : World) (t : Nat) (T : AT) (A : Option Addr) (cap : Nat) (zs : List Int) (R : Rep Li w t T) (hlen : zs.length ≤ 140737488351232) (hr : RdI w A zs) :
    Calls Try.prog 15 #[ptr t, .slice A zs.length cap] w (LonPost (.int .i64 0) w T zs) := by
  have hroot := R.ok.root
  obtain ⟨r0, r1, r2⟩ := node_cells R hroot
  have H0 : Hid (LonIs (.int .i64 0) T zs 0 t ((T.f []).getD (.int .i64 0)) (.int .i64 0) (.bool (T.f []).isSome)) := ⟨by simpa using hroot, rfl, rfl, rfl⟩
  have HR := Lib.hid R
  have Hr := Lib.hid hr
  simp only [Li] at r1
  generalize (T.f []).getD (.int .i64 0) = v0 at r1 H0
  generalize (T.f []).isSome = o0 at r2 H0
  clear R hr hroot r0
  go_enter Try.func15, Try.ntmps15
  go_wp2
  go_quiet (fail)
  go_wp2
  go_loop [7, 8, 9, 10, 26] (fun p v n o i => ∃ k b : Nat, k ≤ zs.length ∧ i = .int .i64 k ∧ p = ptr b ∧ Hid (LonIs (.int .i64 0) T zs k b v n o)) (fun _ _ _ _ i => zs.length - (intOf i).toNat)
  case atStart => exact ⟨0, t, by omega, rfl, rfl, H0⟩
  case round =>
    obtain ⟨k, b, hk, rfl, rfl, hrel⟩ := hrel
    obtain ⟨hb, hv, hn, hok⟩ := hrel.out
    by_cases hlt : k < zs.length
    · obtain ⟨ab, off, rfl, hc⟩ := Hr.out k hlt
      have hm := (node_cells HR.out hb).1
      have ht := take_getD hlt
      have hL := look_i (HR.out.frame ((Fr.refl Nob w).drewN nq) (fun _ _ h => h)) (List.take k zs)
      generalize zs.getD k 0 = r at hc ht
      replace ht := Lib.hid ht
      have hl := hL r
      clear hL
      generalize hp : List.take k zs = p at hb hm hl ht
      cases hx : T.N (p ++ [r]) with
      | none =>
        have hfin := Lib.hid (HR.out.ok.lon_end (z := .int .i64 0) hlt (by rw [ht.out]; exact hx))
        rw [hx] at hl
        simp only [optPtr] at hl
        have Hv := Lib.hid hv
        have Hn := Lib.hid hn
        have Ho := Lib.hid hok
        clear hx hb hv hn hok ht hp H0
        generalize T.M p = M0 at hm hl
        go_wp2
        go_ret3
        refine ⟨?_, _, rfl⟩
        show Ending.returned (.tuple #[u8, u9, u10]) = _
        rw [hfin.out, Hv.out, Hn.out, Ho.out]
      | some b' =>
        obtain ⟨c0, c1, c2⟩ := node_cells HR.out hx
        rw [hx] at hl
        simp only [optPtr] at hl
        cases hf : T.f (p ++ [r]) with
        | none =>
          have H1 : Hid (LonIs (.int .i64 0) T zs (k + 1) b' u8 u9 u10) := by
            unfold LonIs Hid
            rw [lon_succ_none (by rw [ht.out]; exact hf), ht.out]
            exact ⟨hx, hv, hn, hok⟩
          rw [hf] at c2
          simp only [Option.isSome_none] at c2
          clear hx hb hv hn hok ht hp H0 hf c1 c0
          generalize T.M p = M0 at hm hl
          go_wp2
          go_round
          case rel => exact ⟨k + 1, b', by omega, by go_num, rfl, H1⟩
          case measure => simp [intOf]; omega
        | some v =>
          have H1 : Hid (LonIs (.int .i64 0) T zs (k + 1) b' v (.int .i64 ((k : Int) + 1)) (.bool true)) := by
            unfold LonIs Hid
            rw [lon_succ_some (by rw [ht.out]; exact hf), ht.out]
            exact ⟨hx, rfl, rfl, rfl⟩
          rw [hf] at c2 c1
          simp only [Option.isSome_some, Option.getD_some] at c2 c1
          clear hx hb hv hn hok ht hp H0 hf c0
          generalize T.M p = M0 at hm hl
          go_wp2
          go_round
          case rel => exact ⟨k + 1, b', by omega, by go_num, rfl, H1⟩
          case measure => simp [intOf]; omega
    · have e : k = zs.length := by omega
      subst e
      have Hv := Lib.hid hv
      have Hn := Lib.hid hn
      have Ho := Lib.hid hok
      clear hb hv hn hok H0
      go_wp2
      go_ret3
      refine ⟨?_, _, rfl⟩
      show Ending.returned (.tuple #[u8, u9, u10]) = _
      rw [Hv.out, Hn.out, Ho.out]
end Go.Proofs.Ytioflglfnalcaaa

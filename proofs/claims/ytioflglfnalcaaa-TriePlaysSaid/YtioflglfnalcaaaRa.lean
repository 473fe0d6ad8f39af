/- TrieRises: rises and CopyRunes. -/
import Derived.Maps.AppendAt
import Derived.Test.YtioflglfnalcaaaIc
import Derived.Test.YtioflglfnalcaaaWd
import Derived.Test.YtioflglfnalcaaaDg
import Derived.Test.YtioflglfnalcaaaSm
namespace Go.Proofs.Ytioflglfnalcaaa
open Go.RowKit

theorem lx_lt : ∀ {zs ys : List Int} {k : Nat}, lx zs ys → zs.take k = ys.take k → k < zs.length → k < ys.length → zs.getD k 0 ≠ ys.getD k 0 → zs.getD k 0 < ys.getD k 0
  | [], _, _, _, _, h, _, _ => absurd h (Nat.not_lt_zero _)
  | _ :: _, [], _, _, _, _, h, _ => absurd h (Nat.not_lt_zero _)
  | a :: p, b :: q, 0, h, _, _, _, hne => by
    simp only [List.getD_cons_zero] at hne ⊢
    rcases h with h | ⟨h, _⟩
    · exact h
    · exact absurd h hne
  | a :: p, b :: q, k + 1, h, ht, h1, h2, hne => by
    simp only [List.take_succ_cons, List.cons.injEq] at ht
    simp only [List.getD_cons_succ] at hne ⊢
    simp only [List.length_cons] at h1 h2
    rcases h with h | ⟨_, h⟩
    · have := ht.1; omega
    · exact lx_lt h ht.2 (by omega) (by omega) hne
theorem lx_len : ∀ {zs ys : List Int} {k : Nat}, lx zs ys → zs.take k = ys.take k → k ≤ zs.length → k ≤ ys.length → (zs.length ≤ k ∨ ys.length ≤ k) → zs.length < ys.length
  | [], [], _, h, _, _, _, _ => h.elim
  | [], _ :: _, _, _, _, _, _, _ => by simp
  | _ :: _, [], _, h, _, _, _, _ => h.elim
  | a :: p, b :: q, 0, _, _, _, _, h => by
    simp at h
  | a :: p, b :: q, k + 1, h, ht, h1, h2, h3 => by
    simp only [List.take_succ_cons, List.cons.injEq] at ht
    simp only [List.length_cons] at h1 h2 h3 ⊢
    rcases h with h | ⟨_, h⟩
    · have := ht.1; omega
    · have := lx_len h ht.2 (by omega) (by omega) (by omega)
      omega

set_option maxHeartbeats 1000000 in
set_option maxRecDepth 100000 in
theorem rises_i (w : World) (A B : Option Addr) (ca cb : Nat) (zs ys : List Int) (hlen : zs.length ≤ 140737488351232) (hlen2 : ys.length ≤ 140737488351232) (ha : RdI w A zs) (hb : RdI w B ys) (hx : lx zs ys) :
    Calls Try.prog 23 #[.slice A zs.length ca, .slice B ys.length cb] w (BoolPost w true) := by
  have Ha := Lib.hid ha
  have Hb := Lib.hid hb
  have Hx := Lib.hid hx
  clear ha hb hx
  go_enter Try.func23, Try.ntmps23
  go_wp2
  go_loopw [5] (fun i wr => ∃ k n : Nat, k ≤ zs.length ∧ k ≤ ys.length ∧ i = .int .i64 k ∧ Hid (zs.take k = ys.take k) ∧ wr = w.drewN n) (fun i _ => zs.length - (intOf i).toNat)
  case atStart => exact ⟨0, 0, by omega, by omega, rfl, by simp [Hid], rfl⟩
  case round =>
    obtain ⟨k, n, hk, hk2, rfl, htk, rfl⟩ := hrel
    by_cases hlt : k < zs.length
    · by_cases hlt2 : k < ys.length
      · obtain ⟨ab, off, rfl, hc⟩ := Ha.out k hlt
        obtain ⟨bb, off2, rfl, hd⟩ := Hb.out k hlt2
        have ht := take_getD hlt
        have hu := take_getD hlt2
        have hcd : decide ((k : Int) < (zs.length : Int)) = true := by simp; omega
        have hcd2 : decide ((k : Int) < (ys.length : Int)) = true := by simp; omega
        by_cases hx : zs.getD k 0 = ys.getD k 0
        · have H1 : Hid (zs.take (k + 1) = ys.take (k + 1)) := by rw [ht, hu, htk.out, hx]; exact rfl
          rw [hx] at hc
          have hbb : (ys.getD k 0 != ys.getD k 0) = false := by simp
          generalize ys.getD k 0 = r at hc hd hbb
          clear ht hu hx
          have g0 : (0 : Int) ≤ (k : Int) := by omega
          have g1 : (k : Int) < (zs.length : Int) := by omega
          have g2 : (k : Int) < (ys.length : Int) := by omega
          go_wp2
          go_quiet (fail)
          go_wp2
          go_roundw
          case rel => exact ⟨k + 1, _, by omega, by omega, by go_num, H1, rfl⟩
          case measure => simp [intOf]; omega
        · have hl2 := lx_lt Hx.out htk.out hlt hlt2 hx
          have hbb : (zs.getD k 0 != ys.getD k 0) = true := by simpa using hx
          generalize zs.getD k 0 = r at hc hbb hl2
          generalize ys.getD k 0 = r2 at hd hbb hl2
          have hdl : decide (r < r2) = true := by simp; omega
          clear ht hu hx
          have g0 : (0 : Int) ≤ (k : Int) := by omega
          have g1 : (k : Int) < (zs.length : Int) := by omega
          have g2 : (k : Int) < (ys.length : Int) := by omega
          go_wp2
          go_quiet (fail)
          go_wp2
          go_quiet (fail)
          go_wp2
          go_ret
          exact ⟨by simp, _, by first | exact World.drewN_drewN _ _ _ | (rw [World.drewN_drewN, World.drewN_drewN])⟩
      · have hl3 := lx_len Hx.out htk.out hk hk2 (.inr (by omega))
        have hcd : decide ((k : Int) < (zs.length : Int)) = true := by simp; omega
        have hcd2 : decide ((k : Int) < (ys.length : Int)) = false := by simp; omega
        have hdl : decide ((zs.length : Int) < (ys.length : Int)) = true := by simp; omega
        go_wp2
        go_ret
        exact ⟨by simp, _, rfl⟩
    · have hl3 := lx_len Hx.out htk.out hk hk2 (.inl (by omega))
      have hcd : decide ((k : Int) < (zs.length : Int)) = false := by simp; omega
      have hdl : decide ((zs.length : Int) < (ys.length : Int)) = true := by simp; omega
      go_wp2
      go_ret
      exact ⟨by simp, _, rfl⟩

set_option maxHeartbeats 1000000 in
set_option maxRecDepth 100000 in
theorem copy_i (w : World) (A : Option Addr) (cap : Nat) (zs : List Int) (hlen : zs.length ≤ 35184372088832) (ha : RdI w A zs) :
    Calls Try.prog 24 #[.slice A zs.length cap] w (NewL w zs) := by
  obtain ⟨i0, hi, hz0, hz1, hz2⟩ := info_parts info21
  have Ha := Lib.hid ha
  clear ha
  go_enter Try.func24, Try.ntmps24
  go_wp2
  go_loopw [3, 4] (fun v i wr => ∃ k : Nat, k ≤ zs.length ∧ i = .int .i64 k ∧ Hid (wr.ownsRow w.heap.size 21 1 v k ((zs.take k).map enc32)) ∧ Hid (Below w.heap.size w wr)) (fun v i _ => zs.length - (intOf i).toNat)
  case atStart => exact ⟨0, Nat.zero_le _, rfl, Lib.hid (World.ownsRow_nil _ _ _ _), Below.refl _ _⟩
  case round =>
    obtain ⟨k, hk, rfl, hO, hB⟩ := hrel
    by_cases hlt : k < zs.length
    · obtain ⟨ab, off, rfl, hc⟩ := Ha.out k hlt
      have hc' := (hB.out.cell (p := ⟨ab, off + k, none⟩) (cell_lt hc)).trans hc
      have ht : (zs.take (k + 1)).map enc32 = (zs.take k).map enc32 ++ [.int .i32 (zs.getD k 0)] := by rw [take_getD hlt]; simp [enc32]
      obtain ⟨v', w', hrun, hown, hgrow, _⟩ := run_append_own (P := Try.prog) (wr.alloc (.cells #[.int .i32 (zs.getD k 0)] 21)) w.heap.size 36 36 21 i0 (.int .i32 0) 1 4 Try.underlying36 hi hz0 hz1 hz2 rfl (by decide) _ k _ (hO.out.alloc _) ⟨wr.heap.size, 0, none⟩ 1 1 [.int .i32 (zs.getD k 0)]
        rfl (World.news_of_block (cs := #[.int .i32 (zs.getD k 0)]) (heap_alloc_eq wr _)) (by simp [Value.oneCell']) (by unfold maxLen; omega) (by omega) (by have := hB.out.size; simp; omega)
      have hO2 : Hid (w'.ownsRow w.heap.size 21 1 v' (k + 1) ((zs.take (k + 1)).map enc32)) := by unfold Hid; rw [ht]; exact hown
      have hB2 : Hid (Below w.heap.size w w') := (hB.out.alloc (by exact hB.out.size) _).grown hgrow (by have := hB.out.size; simp; omega) (fun j e => (own_lt hO.out e).2.1)
      replace hrun := Lib.hid hrun
      clear hc hown hgrow ht hi hz0 hz1 hz2
      generalize zs.getD k 0 = x at *
      have g0 : (0 : Int) ≤ (k : Int) := by omega
      have g1 : (k : Int) < (zs.length : Int) := by omega
      go_wp2_with (at_builtin; refine wpList_append_run rfl (.tmp 11) (.tmp 16) 36 rfl rfl rfl hrun.out ?_)
      go_roundw
      case rel => exact ⟨k + 1, by omega, by go_num, hO2, hB2⟩
      case measure => simp [intOf]; omega
    · have e : k = zs.length := by omega
      subst e
      have hfin : Hid (NewL w zs (.returned u3) wr) := newL_of_own (by have := hO.out; rwa [List.take_length] at this) hB.out
      go_wp2
      go_ret
      exact hfin.out
end Go.Proofs.Ytioflglfnalcaaa

/- The walks of find, Get, Put, Take, Len, New at Trie[int]. -/
import Derived.Test.YtioflglfnalcaaaProg
import Derived.Test.YtioflglfnalcaaaRep
import Derived.WalkSpells
import Derived.Deep.QuietTactic
import Derived.BigQuiet
namespace Go.Proofs.Ytioflglfnalcaaa
open Go.RowKit

theorem zero85 (w : World) : (zeroValue 85).run Try.prog w = .ok (.pointer none) w := by kernel_rfl

theorem look_i {L : Lay} {w : World} {t : Nat} {T : AT} (R : Rep L w t T) (p : List Int) (r : Int) :
    (Instr.lookup 74 (.map (T.M p)) (.int .i32 r) false).run Try.prog w = .ok (optPtr (T.N (p ++ [r]))) w := by
  cases hm : T.M p with
  | none =>
    rw [run_lookup_nil (P := Try.prog) Try.underlying74 Try.underlying21 (zero85 w)]
    have : T.N (p ++ [r]) = none := by
      cases hx : T.N (p ++ [r]) with
      | none => rfl
      | some c =>
        have h1 := ((R.ok.pre p r).1 (by simp [hx])).2
        rw [R.ok.mnone p hm] at h1; cases h1
    rw [this]; rfl
  | some m =>
    rw [run_lookup_ents (P := Try.prog) Try.underlying74 Try.underlying21 (zero85 w) r (R.map p m hm), R.ok.lookup]

def Li : Lay := ⟨78, 76, .int .i64 0⟩

set_option maxHeartbeats 400000 in
theorem find_i {L : Lay} (w : World) (t : Nat) (T : AT) (A : Option Addr) (cap : Nat) (zs : List Int) (R : Rep L w t T) (hlen : zs.length ≤ 140737488351232) (hr : RdI w A zs) :
    Calls Try.prog 47 #[ptr t, .slice A zs.length cap] w fun e w' => e = .returned (optPtr (T.N zs)) ∧ w = w' := by
  have hroot := Lib.hid R.ok.root
  go_enter Try.func47, Try.ntmps47
  go_wp2
  go_loop [5, 13] (fun p i => ∃ k b : Nat, k ≤ zs.length ∧ i = .int .i64 k ∧ Hid (T.N (zs.take k) = some b) ∧ p = ptr b) (fun _ i => zs.length - (intOf i).toNat)
  case atStart => exact ⟨0, t, by omega, rfl, by simpa using hroot, rfl⟩
  case round =>
    obtain ⟨k, b, hk, rfl, hb, rfl⟩ := hrel
    by_cases hlt : k < zs.length
    · obtain ⟨ab, off, rfl, hc⟩ := hr k hlt
      have hm := (node_cells R hb.out).1
      have ht := take_getD hlt
      have hL := look_i R (List.take k zs)
      generalize zs.getD k 0 = r at hc ht
      replace ht := Lib.hid ht
      have hl := hL r
      clear hL
      generalize List.take k zs = p at hb hm hl ht
      cases hx : T.N (p ++ [r]) with
      | none =>
        rw [hx] at hl
        simp only [optPtr] at hl
        have hfin : optPtr (T.N zs) = .pointer none := by rw [R.ok.take_none (k := k + 1) (by rw [ht.out]; exact hx)]; rfl
        replace hfin := Lib.hid hfin
        clear hx hr R
        generalize T.M p = M0 at hm hl
        go_wp2
        go_ret
        exact ⟨by rw [hfin.out]; rfl, rfl⟩
      | some b' =>
        rw [hx] at hl
        simp only [optPtr] at hl
        have hx' := Lib.hid hx
        clear hx hr R
        generalize T.M p = M0 at hm hl
        go_wp2
        go_round
        case rel => exact ⟨k + 1, b', by omega, by go_num, by rw [ht.out]; exact hx', rfl⟩
        case measure => simp [intOf]; omega
    · have e : k = zs.length := by omega
      subst e
      have hb' := hb.out
      rw [List.take_length] at hb'
      have hb2 := Lib.hid hb'
      clear hb'
      go_wp2
      go_ret
      exact ⟨by rw [hb2.out]; rfl, rfl⟩

set_option maxHeartbeats 400000 in
theorem get_i (w : World) (t : Nat) (T : AT) (A : Option Addr) (cap : Nat) (zs : List Int) (R : Rep Li w t T) (hlen : zs.length ≤ 140737488351232) (hr : RdI w A zs) :
    Calls Try.prog 16 #[ptr t, .slice A zs.length cap] w fun e w' => e = .returned (.tuple #[(T.f zs).getD (.int .i64 0), .bool (T.f zs).isSome]) ∧ w = w' := by
  have hfi := find_i w t T A cap zs R hlen hr
  cases hn : T.N zs with
  | none =>
    have hf : T.f zs = none := by
      cases hx : T.f zs with
      | none => rfl
      | some v => have := R.ok.fdom zs (by simp [hx]); rw [hn] at this; cases this
    rw [hn] at hfi
    simp only [optPtr] at hfi
    have H := Lib.hid hfi
    rw [hf]
    clear hfi hr R hn hf
    go_enter Try.func16, Try.ntmps16
    go_wp2_with (go_at_call 47; refine H.out.mono ?_; rintro e w' ⟨rfl, rfl⟩)
    go_ret2
    exact ⟨rfl, rfl⟩
  | some b =>
    rw [hn] at hfi
    simp only [optPtr] at hfi
    have H := Lib.hid hfi
    obtain ⟨h0, h1, h2⟩ := node_cells R hn
    clear hfi hr R hn h0
    cases hf : T.f zs with
    | none =>
      rw [hf] at h1 h2
      simp only [Option.getD_none, Option.isSome_none] at h1 h2
      clear hf
      go_enter Try.func16, Try.ntmps16
      go_wp2_with (go_at_call 47; refine H.out.mono ?_; rintro e w' ⟨rfl, rfl⟩)
      go_ret2
      exact ⟨rfl, rfl⟩
    | some v =>
      rw [hf] at h1 h2
      simp only [Option.getD_some, Option.isSome_some] at h1 h2
      clear hf
      go_enter Try.func16, Try.ntmps16
      go_wp2_with (go_at_call 47; refine H.out.mono ?_; rintro e w' ⟨rfl, rfl⟩)
      go_ret2
      exact ⟨rfl, rfl⟩

theorem len_i {L : Lay} (w : World) (t : Nat) (T : AT) (R : Rep L w t T) :
    Calls Try.prog 35 #[ptr t] w fun e w' => e = .returned (.int .i64 (T.ps.length : Int)) ∧ w = w' := by
  have h := root_cell R
  clear R
  go_enter Try.func35, Try.ntmps35
  go_wp2
  go_ret
  exact ⟨rfl, rfl⟩

theorem new_i (w : World) : Calls Try.prog 9 #[] w fun e w' => e = .returned (ptr w.heap.size) ∧ Rep Li w' w.heap.size (AT.empty w.heap.size) ∧ w' = w.alloc (.cells #[.map none, .int .i64 0, .bool false, .int .i64 0] 78) := by
  go_enter Try.func9, Try.ntmps9
  go_wp2
  go_ret
  exact ⟨rfl, rep_empty (heap_alloc_eq _ _), rfl⟩

set_option maxHeartbeats 400000 in
theorem take_i (w : World) (t : Nat) (T : AT) (A : Option Addr) (cap : Nat) (zs : List Int) (R : Rep Li w t T) (hlen : zs.length ≤ 140737488351232) (hr : RdI w A zs) (hps : T.ps.length ≤ 140737488351232) :
    Calls Try.prog 34 #[ptr t, .slice A zs.length cap] w fun e w' => e = .returned (.bool (T.f zs).isSome) ∧ Rep Li w' t (T.upd zs none (T.ps.erase zs)) ∧ Fr T.own w w' := by
  have hfi := find_i w t T A cap zs R hlen hr
  have hsame : T.f zs = none → Rep Li w t (T.upd zs none (T.ps.erase zs)) := fun hf => by
    have e1 : T.ps.erase zs = T.ps := List.erase_of_not_mem (fun hm => by have := (R.ok.psm zs).1 hm; rw [hf] at this; cases this)
    have e2 : T.upd zs none (T.ps.erase zs) = T := by
      rw [e1]; unfold AT.upd
      have : (fun q => if q = zs then none else T.f q) = T.f := funext fun q => by split <;> simp_all
      rw [this]
    rw [e2]; exact R
  cases hn : T.N zs with
  | none =>
    have hf : T.f zs = none := by
      cases hx : T.f zs with
      | none => rfl
      | some v => have := R.ok.fdom zs (by simp [hx]); rw [hn] at this; cases this
    rw [hn] at hfi
    simp only [optPtr] at hfi
    have H := Lib.hid hfi
    have H2 := Lib.hid (hsame hf)
    rw [hf]
    clear hfi hr R hn hf hsame
    go_enter Try.func34, Try.ntmps34
    go_wp2_with (go_at_call 47; refine H.out.mono ?_; rintro e w' ⟨rfl, rfl⟩)
    go_ret
    exact ⟨rfl, H2.out, Fr.refl _ _⟩
  | some b =>
    rw [hn] at hfi
    simp only [optPtr] at hfi
    have H := Lib.hid hfi
    obtain ⟨h0, h1, h2⟩ := node_cells R hn
    have f1 := node_free R hn 1
    have f2 := node_free R hn 2
    have f3 := node_free R R.ok.root 3
    have h3 := root_cell R
    cases hf : T.f zs with
    | none =>
      rw [hf] at h1 h2
      simp only [Option.getD_none, Option.isSome_none] at h1 h2
      have H2 := Lib.hid (hsame hf)
      clear hfi hr R hn hf hsame h0
      go_enter Try.func34, Try.ntmps34
      go_wp2_with (go_at_call 47; refine H.out.mono ?_; rintro e w' ⟨rfl, rfl⟩)
      go_ret
      exact ⟨rfl, H2.out, Fr.refl _ _⟩
    | some v =>
      rw [hf] at h1 h2
      simp only [Option.getD_some, Option.isSome_some] at h1 h2
      have hm : zs ∈ T.ps := (R.ok.psm zs).2 (by simp [hf])
      have hpos : 0 < T.ps.length := List.length_pos_of_mem hm
      have hd := ps_del R.ok (p := zs)
      have H2 := Lib.hid (rep_stores (x := none) R hn hd.1 hd.2)
      have hl : ((T.ps.erase zs).length : Int) = (T.ps.length : Int) - 1 := by rw [List.length_erase_of_mem hm]; omega
      rw [hl] at H2
      have H3 : Fr T.own w (((w.setCell ⟨b, 1, none⟩ (.int .i64 0)).setCell ⟨b, 2, none⟩ (.bool false)).setCell ⟨t, 3, none⟩ (.int .i64 ((T.ps.length : Int) - 1))) :=
        (((Fr.refl _ _).setCell (p := ⟨b, 1, none⟩) (.inl (.inl ⟨_, hn⟩)) _).setCell (p := ⟨b, 2, none⟩) (.inl (.inl ⟨_, hn⟩)) _).setCell (p := ⟨t, 3, none⟩) (.inl (.inl ⟨_, R.ok.root⟩)) _
      replace H3 := Lib.hid H3
      clear hfi hr R hn hf hsame h0 hl hd hm
      go_enter Try.func34, Try.ntmps34
      go_wp2_with (go_at_call 47; refine H.out.mono ?_; rintro e w' ⟨rfl, rfl⟩)
      go_ret
      exact ⟨rfl, H2.out, H3.out⟩
end Go.Proofs.Ytioflglfnalcaaa

/- TrieThings: the walk. -/
import Derived.StillTailTactics
import Derived.Test.YtioflglfnalcaaaTa
namespace Go.Proofs.Ytioflglfnalcaaa
open Go.RowKit

theorem info64 : (Try.prog.info? 64).map (fun i => (i.zero, i.size, i.bytes)) = some (some (.slice none 0 0), 1, 24) := by kernel_rfl

theorem make_things (n : Nat) (hn : n * 24 ≤ 140737488351232) : ∃ c : Array Value, c.size = n ∧ ∀ W : World, (Instr.makeSlice 65 (.int .i64 (n : Int)) (.int .i64 (n : Int))).run Try.prog W = .ok (.slice (some ⟨W.heap.size, 0, none⟩) n n) (W.alloc (.cells c 64)) := by
  obtain ⟨i0, hi, hz0, hz1, hz2⟩ := info_parts info64
  refine ⟨madeCells (Value.cells (.slice none 0 0)) (n * i0.size), by rw [hz1]; simp [size_madeCells], fun W => ?_⟩
  have hr := run_make (P := Try.prog) W 65 64 i0 (.slice none 0 0) Try.underlying65 hi hz0 .i64 .i64 (n : Int) (n : Int) (by omega) (by omega) (by rw [hz2]; omega) (by omega)
  simp only [Int.toNat_natCast] at hr
  exact hr

/-- What holds in the first loop. -/
def ThRel (w : World) (t bth : Nat) (rows : List (List Int)) (k : Nat) (wr : World) : Prop :=
  ∃ ps D m T G, ps.length ≤ k ∧ D ≤ 140737488351232 ∧ St Lv w t (putsG rows G k) ps D m T wr ∧ ThM w bth rows.length G k T wr

set_option maxHeartbeats 1000000 in
set_option maxRecDepth 100000 in
theorem things_law (w : World) (Av Al : Option Addr) (cap capl : Nat) (rows : List (List Int)) (l : List Int) (hr : RdRows w Av rows) (hl : RdI w Al l) (hll : l.length ≤ 140737488351232) (hn : rows.length * 24 ≤ 140737488351232) :
    Calls Try.prog 6 #[.slice Av rows.length cap, .slice Al l.length capl] w (WorksP w) := by
  have Hr := Lib.hid hr
  have Hl := Lib.hid hl
  clear hr hl
  obtain ⟨c0, hc0, hmk⟩ := make_things rows.length hn
  go_enter Try.func6, Try.ntmps6
  go_wp2_with fail
  refine (stn_v w).mono ?_
  rintro e w1 ⟨t, rfl, S0⟩
  replace S0 := Lib.hid S0
  go_wp2_with fail
  refine (works_i w1).mono ?_
  rintro e w2 ⟨rfl, hb2⟩
  have S1 := Lib.hid (S0.out.new hb2)
  clear S0 hb2
  obtain ⟨w3, hw3⟩ : ∃ w3, w3 = w2.alloc (.cells c0 64) := ⟨_, rfl⟩
  have H0 : Hid (ThRel w t w2.heap.size rows 0 w3) := by
    have hb3 : Below w2.heap.size w2 w3 := by rw [hw3]; exact (Below.refl _ _).alloc (Nat.le_refl _) _
    refine Lib.hid ⟨[], 0, 0, _, fun _ => 0, Nat.le_refl _, by omega, S1.out.new hb3, ⟨⟨c0, by rw [hw3]; exact heap_alloc_eq _ _, hc0, fun i hi => absurd hi (Nat.not_lt_zero i)⟩, fun i hi => absurd hi (Nat.not_lt_zero i), fun i hi => absurd hi (Nat.not_lt_zero i), S1.out.below.size,
      fun i hi => absurd hi (Nat.not_lt_zero i), fun i j hi => absurd hi (Nat.not_lt_zero i), fun i hi => absurd hi (Nat.not_lt_zero i), fun ho => by have := S1.out.rep.lt ho; omega⟩⟩
  have hw3' := Lib.hid hw3
  clear hw3
  go_wp2_with fail
  rw [← hw3'.out]
  clear hw3' hmk hc0
  generalize w2.heap.size = bth at *
  go_loopw [7] (fun i wr => ∃ k : Nat, k ≤ rows.length ∧ i = .int .i64 k ∧ Hid (ThRel w t bth rows k wr)) (fun i _ => rows.length - (intOf i).toNat)
  case atStart => exact ⟨0, Nat.zero_le _, rfl, H0⟩
  case round =>
    obtain ⟨k, hk, rfl, hrel⟩ := hrel
    obtain ⟨ps, D, m, T, G, hps, hD, S, M⟩ := hrel.out
    clear hrel
    by_cases hlt : k < rows.length
    · obtain ⟨b, off, A, c, rfl, hc, hrd, hle⟩ := Hr.out k hlt
      obtain ⟨cb, hcb1, hcb2, hcb3⟩ := M.blk
      have hv0 : wr.cell? ⟨bth, k, none⟩ = some cb[k] := by
        rw [cell_of_row _ _ _ _ _ _ hcb1]
        simp [hcb2, hlt]
      have hv1 : wr.frozen? ⟨bth, k, none⟩ = false := by simp [World.frozen?, hcb1]
      generalize cb[k] = v0 at hv0
      have hbl := M.bth_lt
      obtain ⟨W2, hW2⟩ : ∃ W2, W2 = (wr.setCell ⟨bth, k, none⟩ (thing wr.heap.size)).alloc (.cells #[.int .i64 (k : Int)] 3) := ⟨_, rfl⟩
      have M2 := M.step hlt S.below.size (fun j hj => S.rep.lt hj)
      rw [← hW2] at M2
      have hF2 : Fr (· = bth) wr W2 := by
        rw [hW2]
        exact ((Fr.refl (· = bth) wr).setCell (p := ⟨bth, k, none⟩) (.inl rfl) _).alloc _
      have S2 : St Lv w t (putsG rows (fun i => if i = k then wr.heap.size else G i) k) ps D m T W2 := by
        rw [putsG_congr (G' := G) fun i hi => by rw [if_neg (by omega)]]
        exact S.frS hF2 (fun j hj e => M.ownb (e ▸ hj)) (fun j e => by rw [e]; exact M.geb)
      obtain ⟨G', hG'⟩ : ∃ G' : Nat → Nat, G' = fun i => if i = k then wr.heap.size else G i := ⟨_, rfl⟩
      have hGk : G' k = wr.heap.size := by rw [hG']; simp
      rw [← hG'] at M2 S2
      have hc2 := (S2.below.cell (p := ⟨b, off + k, none⟩) (cell_lt hc)).trans hc
      have hd2 : W2.cell? ⟨bth, k, none⟩ = some (.slice (some ⟨wr.heap.size, 0, none⟩) 1 1) := by
        obtain ⟨c2, h1, _, h3⟩ := M2.blk
        have := h3 k (by omega)
        rw [hGk] at this
        rw [cell_of_row _ _ _ _ _ _ h1]
        exact this
      have hrd2 := Lib.hid (rdI_below hrd S2.below)
      have hput := fun nq => stq_put (S2.drewN nq) A c (rows.getD k []) (some ⟨wr.heap.size, 0, none⟩) 1 1 hle (hrd2.out : RdI (W2.drewN nq) A _) (fun ad e hz ho => by
        have h1 := rdI_lt hrd ad e hz
        have h2 := S.own _ ho
        omega) (by omega) rfl rfl hD hle
      have hnext : Hid (∀ nq e w', PutQ w t (putsG rows G' k (rows.getD k [])).isSome (fun q => if q = rows.getD k [] then some (Value.slice (some ⟨wr.heap.size, 0, none⟩) 1 1) else putsG rows G' k q)
          (if (putsG rows G' k (rows.getD k [])).isSome = true then ps else rows.getD k [] :: ps) 140737488351232 (m + 1) T (W2.drewN nq) e w' → ThRel w t bth rows (k + 1) w') := Lib.hid fun nq e w' ⟨_, T', h1, h2, h3⟩ => by
        have e1 : putsG rows G' (k + 1) = fun q => if q = rows.getD k [] then some (Value.slice (some ⟨wr.heap.size, 0, none⟩) 1 1) else putsG rows G' k q := by
          funext q
          simp only [putsG, hGk, thing]
        rw [← e1] at h1
        refine ⟨_, _, _, T', G', ?_, Nat.le_refl _, h1, (M2.put ((Fr.refl T.own W2).drewN nq) (fun _ hj => .inl hj)).put h2 h3⟩
        split
        · omega
        · simp only [List.length_cons]; omega
      have hW2' := Lib.hid hW2
      replace hput := Lib.hid hput
      clear S M S2 M2 hF2 hrd hcb1 hcb3 hG' hGk hW2 hc
      simp only [thing] at hW2'
      generalize rows.getD k [] = zs at *
      generalize (putsG rows G' k zs).isSome = bb at *
      have hk1 : (0 : Int) ≤ (k : Int) := by omega
      have hk2 : (k : Int) < (rows.length : Int) := by omega
      go_wp2
      rw [← hW2'.out]
      clear hW2' hv0 hv1 hbl
      go_still_tail 9, (by kernel_rfl)
      change wpList _ _ _ _ _ W2.drew
      go_wp2_with fail
      refine (hput.out 1).mono ?_
      intro e w4 hq
      have hk3 := Lib.hid (hnext.out _ _ _ hq)
      obtain ⟨rfl, -⟩ := hq
      clear hput hnext hrd2 hc2 hd2
      go_wp2
      exact ⟨⟨k + 1, by omega, by simp, hk3⟩, by simp [intOf]; omega⟩
    · have hkk : k = rows.length := by omega
      subst hkk
      have hl2 := rdI_below Hl.out S.below
      have hla : ∀ ad, Al = some ad → l ≠ [] → ¬ T.own ad.block := fun ad e hz ho => by
        have h1 := rdI_lt Hl.out ad e hz
        have h2 := S.own _ ho
        omega
      have hRel : Hid (ThRel w t bth rows rows.length wr) := Lib.hid ⟨ps, D, m, T, G, hps, hD, S, M⟩
      obtain ⟨f, hf⟩ : ∃ f, f = putsG rows G rows.length := ⟨_, rfl⟩
      rw [← hf] at S
      have hlen := Lib.hid (stlen_v S rfl)
      cases hfl : f l
      case' some v =>
        have hget := Lib.hid (stget_v S Al capl l hll hl2 (b := true) (by rw [hfl]; rfl) rfl)
        rw [hfl] at hget
        simp only [Option.getD_some] at hget
        clear S M hl2 hla hf hfl
        go_wp2_with fail
        refine hget.out.mono ?_
        rintro e _ ⟨rfl, rfl⟩
        go_wp2_with fail
        refine hlen.out.mono ?_
        rintro e _ ⟨rfl, rfl⟩
        clear hget hlen
        go_wp2
      case' none =>
        have hget := Lib.hid (stget_v S Al capl l hll hl2 (b := false) (by rw [hfl]; rfl) rfl)
        rw [hfl] at hget
        simp only [Option.getD_none] at hget
        have hb5 : Below wr.heap.size wr (wr.alloc (.cells #[.int .i64 (-1)] 3)) := (Below.refl _ _).alloc (Nat.le_refl _) _
        have S5 := S.new hb5
        have M5 := M.new hb5
        have hput := Lib.hid (stq_put S5 Al capl l (some ⟨wr.heap.size, 0, none⟩) 1 1 hll (rdI_below hl2 hb5) hla (by omega) (b := false) (by rw [hfl]; rfl) (ps' := l :: ps) rfl (D' := 140737488351232) hD hll)
        have hnp : ps.erase l = ps := List.erase_of_not_mem fun hm => by
          rw [← S.hps] at hm
          have := (S.rep.ok.psm l).1 hm
          rw [S.hf, hfl] at this; cases this
        replace hnp := Lib.hid hnp
        replace M5 := Lib.hid M5
        replace hfl := Lib.hid hfl
        clear S M S5 hla hl2 hb5
        go_wp2_with fail
        refine hget.out.mono ?_
        rintro e _ ⟨rfl, rfl⟩
        go_wp2_with fail
        refine hlen.out.mono ?_
        rintro e _ ⟨rfl, rfl⟩
        clear hget hlen
        go_wp2_with fail
        refine hput.out.mono ?_
        rintro e w6 ⟨rfl, T6, S6, F6, o6⟩
        have M6 := Lib.hid (M5.out.put F6 o6)
        replace S6 := Lib.hid S6
        clear hput M5 F6 o6
        go_wp2_with fail
        refine (stlen_v S6.out (n := ps.length + 1) (by simp)).mono ?_
        rintro e _ ⟨rfl, rfl⟩
        go_wp2_with fail
        refine (stq_take S6.out Al capl l hll (rdI_below Hl.out S6.out.below) (by simp only [List.length_cons]; omega) (b := true) (by simp) (ps' := ps) (by simp)).mono ?_
        rintro e w7 ⟨rfl, T7, S7, F7, o7⟩
        have M7 := Lib.hid (M6.out.put F7 o7)
        replace S7 := Lib.hid S7
        clear S6 M6 F7 o7
        go_wp2_with fail
        refine (stq_take S7.out Al capl l hll (rdI_below Hl.out S7.out.below) (by omega) (b := false) (by simp) (ps' := ps) hnp.out).mono ?_
        rintro e w8 ⟨rfl, T8, S8, F8, o8⟩
        have M8 := Lib.hid (M7.out.put F8 o8)
        replace S8 := Lib.hid S8
        clear S7 M7 F8 o8
        go_wp2_with fail
        refine (stlen_v S8.out (n := ps.length) rfl).mono ?_
        rintro e _ ⟨rfl, rfl⟩
        have hRel2 : Hid (ThRel w t bth rows rows.length w8) := by
          have h := S8.out
          refine Lib.hid ⟨ps, _, _, T8, G, hps, Nat.le_refl _, ⟨h.rep, ?_, h.hps, h.small, h.own, h.below⟩, M8.out⟩
          rw [h.hf, ← hf]
          funext q
          by_cases e : q = l
          · subst e; simp [hfl.out]
          · simp [e]
        clear hRel S8 M8 hf hfl hnp
        have hRel := hRel2
        clear hRel2
        go_wp2
      all_goals
        clear H0 S1
        go_loopw [11] (fun i wr => ∃ k : Nat, k ≤ rows.length ∧ i = .int .i64 k ∧ Hid (ThRel w t bth rows rows.length wr)) (fun i _ => rows.length - (intOf i).toNat)
        case atStart => exact ⟨0, Nat.zero_le _, rfl, hRel⟩
        case round =>
          clear hRel
          obtain ⟨k, hk, rfl, hRel⟩ := hrel
          by_cases hlt : k < rows.length
          · obtain ⟨b, off, A, c, rfl, hc, hrd, hle⟩ := Hr.out k hlt
            have hbw : Below w.heap.size w wr := by
              obtain ⟨ps, D, m, T, G, hps, hD, S, M⟩ := hRel.out
              exact S.below
            have hRr := Lib.hid (rdRows_below Hr.out hbw)
            have hk1 : (0 : Int) ≤ (k : Int) := by omega
            have hk2 : (k : Int) < (rows.length : Int) := by omega
            have hcr := (hbw.cell (p := ⟨b, off + k, none⟩) (cell_lt hc)).trans hc
            have hrr := Lib.hid (rdI_below hrd hbw)
            obtain ⟨zk, hzk⟩ : ∃ zk, zk = rows.getD k [] := ⟨_, rfl⟩
            rw [← hzk] at hcr hrr hle
            clear hc hrd
            replace hzk := Lib.hid hzk
            go_wp2
            go_loopw [12, 13] (fun a b wi => ∃ L kk : Nat, k ≤ L ∧ L < kk ∧ kk ≤ rows.length ∧ a = .int .i64 L ∧ b = .int .i64 kk ∧ Hid (rows.getD L [] = zk) ∧ Hid (∀ j, L < j → j < kk → rows.getD j [] ≠ zk) ∧ ∃ q, wi = wr.drewN q) (fun _ b _ => rows.length - (intOf b).toNat)
            case atStart => exact ⟨k, k + 1, Nat.le_refl _, Nat.lt_succ_self _, hlt, rfl, by simp, Lib.hid hzk.out.symm, Lib.hid fun j h1 h2 => by omega, 0, rfl⟩
            case round =>
              obtain ⟨L, kk, hL1, hL2, hL3, rfl, rfl, hL4, hL5, q, hwi⟩ := hrel
              rename World => wi
              by_cases hlk : kk < rows.length
              · obtain ⟨b', off', A', c', e', hc', hrd', hle'⟩ := hRr.out kk hlk
                cases e'
                have hj1 : (0 : Int) ≤ (kk : Int) := by omega
                have hj2 : (kk : Int) < (rows.length : Int) := by omega
                have hc2 : wi.cell? ⟨b, off + kk, none⟩ = some (.slice A' (rows.getD kk []).length c') := by rw [hwi]; exact hc'
                have hc3 : wi.cell? ⟨b, off + k, none⟩ = some (.slice A zk.length c) := by rw [hwi]; exact hcr
                have hrd2 : RdI wi A' (rows.getD kk []) := by rw [hwi]; exact hrd'
                have hrd3 : RdI wi A zk := by rw [hwi]; exact hrr.out
                have hsame : ∀ m, Calls Try.prog 17 #[.slice A' (rows.getD kk []).length c', .slice A zk.length c] (wi.drewN m) fun e w' => e = .returned (.bool (decide (rows.getD kk [] = zk))) ∧ ∃ m', w' = (wi.drewN m).drewN m' := fun m =>
                  same_runes (wi.drewN m) A' A c' c (rows.getD kk []) zk hle' hrd2 hrd3
                have hadv : Hid (∀ n, ∃ q, wi.drewN n = wr.drewN q) := Lib.hid fun n => ⟨q + n, by rw [hwi, World.drewN_drewN]⟩
                clear hc' hrd2 hrd3 hwi
                clear hrd'
                by_cases he : rows.getD kk [] = zk
                · rw [decide_eq_true he] at hsame
                  have hL4' := Lib.hid he
                  have hL5' : Hid (∀ j, kk < j → j < kk + 1 → rows.getD j [] ≠ zk) := Lib.hid fun j h1 h2 => by omega
                  replace hsame := Lib.hid hsame
                  clear he
                  generalize (rows.getD kk []).length = lz at hsame hc2 hle'
                  go_wp2
                  go_quiet ((go_at_call 17; exact Calls.quiet_of (hsame.out _)))
                  go_wp2
                  exact ⟨⟨kk, kk + 1, by omega, by omega, by omega, rfl, by simp, hL4', hL5', hadv.out _⟩, by simp [intOf]; omega⟩
                · rw [decide_eq_false he] at hsame
                  have hL5' : Hid (∀ j, L < j → j < kk + 1 → rows.getD j [] ≠ zk) := Lib.hid fun j h1 h2 => by
                    rcases (by omega : j = kk ∨ j < kk) with rfl | h3
                    · exact he
                    · exact hL5.out j h1 h3
                  replace hsame := Lib.hid hsame
                  clear he
                  generalize (rows.getD kk []).length = lz at hsame hc2 hle'
                  go_wp2
                  go_quiet ((go_at_call 17; exact Calls.quiet_of (hsame.out _)))
                  go_wp2
                  exact ⟨⟨L, kk + 1, by omega, by omega, by omega, rfl, by simp, hL4, hL5', hadv.out _⟩, by simp [intOf]; omega⟩
              · have hkk : kk = rows.length := by omega
                subst hkk
                subst hwi
                obtain ⟨ps, D, m, T, G, hps, hD, S, M⟩ := hRel.out
                have S' := S.drewN q
                have M' : ThM w bth rows.length G rows.length T (wr.drewN q) := M.put ((Fr.refl T.own wr).drewN q) fun _ hj => .inl hj
                have hzl := putsG_last (G := G) hL2 hL4.out hL5.out
                have hget := stget_v S' A c zk hle (hrr.out : RdI (wr.drewN q) A zk) (b := true) (by rw [hzl]; rfl) rfl
                rw [hzl] at hget
                simp only [Option.getD_some, thing] at hget
                obtain ⟨cb, hcb1, hcb2, hcb3⟩ := M'.blk
                have hd1 : (wr.drewN q).cell? ⟨bth, L, none⟩ = some (.slice (some ⟨G L, 0, none⟩) 1 1) := by
                  rw [cell_of_row _ _ _ _ _ _ hcb1]; exact hcb3 L hL2
                have hg1 := M'.th L hL2
                have hd2 : (wr.drewN q).cell? ⟨G L, 0, none⟩ = some (.int .i64 (L : Int)) := by
                  rw [cell_of_row _ _ _ _ _ _ hg1]; rfl
                have hd3 : (wr.drewN q).frozen? ⟨G L, 0, none⟩ = false := Boxed.frozen hg1
                have hne := M'.ne L hL2
                have hFin : Hid (ThRel w t bth rows rows.length (((wr.drewN q).setCell ⟨G L, 0, none⟩ (.int .i64 (1000 + (L : Int)))).setCell ⟨G L, 0, none⟩ (.int .i64 (L : Int)))) := by
                  refine Lib.hid ⟨ps, D, m, T, G, hps, hD, ?_, M'.back hL2 _⟩
                  refine S'.frS (S := (· = G L)) (((Fr.refl (· = G L) (wr.drewN q)).setCell (p := ⟨G L, 0, none⟩) (.inl rfl) _).setCell (p := ⟨G L, 0, none⟩) (.inl rfl) _) (fun j hj e => M'.own L hL2 (e ▸ hj)) (fun j e => by rw [e]; exact M'.ge L hL2)
                replace hget := Lib.hid hget
                have hc3 : (wr.drewN q).cell? ⟨b, off + k, none⟩ = some (.slice A zk.length c) := hcr
                have hj1 : (0 : Int) ≤ (L : Int) := by omega
                have hj2 : (L : Int) < (rows.length : Int) := by omega
                clear S M S' M' hzl hg1 hcb1 hcb3 hL4 hL5 hRel
                generalize G L = g at *
                generalize wr.drewN q = wi at *
                go_wp2_with fail
                refine hget.out.mono ?_
                rintro e _ ⟨rfl, rfl⟩
                clear hget
                go_wp2
                exact ⟨⟨k + 1, by omega, by simp, hFin⟩, by simp [intOf]; omega⟩
          · have hkk : k = rows.length := by omega
            subst hkk
            obtain ⟨ps, D, m, T, G, hps, hD, S, M⟩ := hRel.out
            have HP : Hid (WorksP w (.returned (.bool true)) wr) := ⟨rfl, S.below⟩
            clear S M hRel
            go_wp2
            go_ret
            exact HP.out
end Go.Proofs.Ytioflglfnalcaaa

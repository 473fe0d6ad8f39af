/- TrieKnown: the walk. -/
import Derived.Test.YtioflglfnalcaaaKb
import Derived.Test.YtioflglfnalcaaaWk
import Derived.Test.YtioflglfnalcaaaKd
import Derived.Test.YtioflglfnalcaaaKe
namespace Go.Proofs.Ytioflglfnalcaaa
open Go.RowKit

attribute [local go_sem] Oper.semAt_some

theorem callW {P : Program} {n : Nat} {f : FuncId} {args : Array Value} {w : World} {R R' : Ending → World → Prop} (h : Calls P f args w R) (hk : ∀ e w', R e w' → R' e w') :
    Fence.wide.fn f ∧ (Fence.wide.depth.isSome = true → 1 ≤ n) ∧ CallsIn Fence.wide (n - 1) P f args w R' := ⟨trivial, (by intro h; cases h), CallsIn.mono (callsIn_wide.2 h) hk⟩

set_option maxHeartbeats 4000000 in
set_option maxRecDepth 100000 in
theorem known_i (n : Nat) (w : World) : CallsIn Fence.wide n Try.prog 7 #[] w (WorksP w) := by
  obtain ⟨w0, hw0⟩ : ∃ w0, w0 = w.alloc (.cells #[.bool false] 4) := ⟨_, rfl⟩
  have hbox : Boxed w0 w.heap.size 4 (.bool false) := by rw [hw0]; exact heap_alloc_eq _ _
  have hb0 : Below w.heap.size w w0 := by rw [hw0]; exact (Below.refl _ _).alloc (Nat.le_refl _) _
  have hsz0 : w0.heap.size = w.heap.size + 1 := by rw [hw0]; simp
  replace hbox := Lib.hid hbox
  replace hw0 := Lib.hid hw0
  refine callsIn_of_wp_marks Try.func7 rfl trivial ?_ rfl
  simp only [Try.ntmps7, List.size_toArray, List.length_nil, Nat.reduceSub, Array.replicate_succ, Array.replicate_zero, List.push_toArray, List.append_toArray, List.nil_append, List.cons_append]
  gi_wp2_with fail
  rw [← hw0.out]
  refine callW (st_new w0) ?_
  rintro e w1 ⟨t, rfl, S0⟩
  replace S0 := Lib.hid S0
  gi_wp2_with fail
  refine callW (works_i w1) ?_
  rintro e w2 ⟨rfl, hb2⟩
  have S1 := Lib.hid (S0.out.new hb2)
  clear S0 hb2
  gi_wp2_with fail
  refine callW (st_runes S1.out _ [97, 98, 99] (by rfl) (by decide)) ?_
  rintro e w3 ⟨Ad3, cap3, rfl, r3, a3, S2⟩
  replace S2 := Lib.hid S2
  replace r3 := Lib.hid r3
  clear S1
  gi_wp2_with fail
  refine callW (st_put S2.out (some Ad3) cap3 [97, 98, 99] 3 (by decide) r3.out (fun ad e _ => by cases e; exact a3) (by decide) (b := false) rfl rfl (D' := 3) (by decide) (by decide)) ?_
  rintro e w4 ⟨rfl, T4, S3⟩
  replace S3 : Hid (St Li w0 t A1 [[97, 98, 99]] 3 1 T4 w4) := Lib.hid S3
  clear S2
  gi_wp2_with fail
  refine callW (st_runes S3.out _ [98] (by rfl) (by decide)) ?_
  rintro e w5 ⟨Ad5, cap5, rfl, r5, a5, S4⟩
  replace S4 := Lib.hid S4
  replace r5 := Lib.hid r5
  clear S3
  gi_wp2_with fail
  refine callW (st_put S4.out (some Ad5) cap5 [98] 4 (by decide) r5.out (fun ad e _ => by cases e; exact a5) (by decide) (b := false) rfl rfl (D' := 3) (by decide) (by decide)) ?_
  rintro e w6 ⟨rfl, T6, S5⟩
  replace S5 : Hid (St Li w0 t A2 [[98], [97, 98, 99]] 3 2 T6 w6) := Lib.hid S5
  clear S4
  gi_wp2_with fail
  refine callW (st_runes S5.out _ [97, 98] (by rfl) (by decide)) ?_
  rintro e w7 ⟨Ad7, cap7, rfl, r7, a7, S6⟩
  replace S6 := Lib.hid S6
  replace r7 := Lib.hid r7
  clear S5
  gi_wp2_with fail
  refine callW (st_put S6.out (some Ad7) cap7 [97, 98] 2 (by decide) r7.out (fun ad e _ => by cases e; exact a7) (by decide) (b := false) rfl rfl (D' := 3) (by decide) (by decide)) ?_
  rintro e w8 ⟨rfl, T8, S7⟩
  replace S7 : Hid (St Li w0 t A3 [[97, 98], [98], [97, 98, 99]] 3 3 T8 w8) := Lib.hid S7
  clear S6
  gi_wp2_with fail
  refine callW (st_runes S7.out _ [97] (by rfl) (by decide)) ?_
  rintro e w9 ⟨Ad9, cap9, rfl, r9, a9, S8⟩
  replace S8 := Lib.hid S8
  replace r9 := Lib.hid r9
  clear S7
  gi_wp2_with fail
  refine callW (st_put S8.out (some Ad9) cap9 [97] 1 (by decide) r9.out (fun ad e _ => by cases e; exact a9) (by decide) (b := false) rfl rfl (D' := 3) (by decide) (by decide)) ?_
  rintro e w10 ⟨rfl, T10, S9⟩
  replace S9 : Hid (St Li w0 t A4 [[97], [97, 98], [98], [97, 98, 99]] 3 4 T10 w10) := Lib.hid S9
  clear S8
  gi_wp2_with fail
  refine callW (st_runes S9.out _ [97, 98] (by rfl) (by decide)) ?_
  rintro e w11 ⟨Ad11, cap11, rfl, r11, a11, S10⟩
  replace S10 := Lib.hid S10
  replace r11 := Lib.hid r11
  clear S9
  gi_wp2_with fail
  refine callW (st_put S10.out (some Ad11) cap11 [97, 98] 5 (by decide) r11.out (fun ad e _ => by cases e; exact a11) (by decide) (b := true) rfl rfl (D' := 3) (by decide) (by decide)) ?_
  rintro e w12 ⟨rfl, T12, S11⟩
  replace S11 : Hid (St Li w0 t A5 [[97], [97, 98], [98], [97, 98, 99]] 3 5 T12 w12) := Lib.hid S11
  clear S10
  gi_wp2_with fail
  refine callW (got_i S11.out _ [97, 98] 5 true (by rfl) (by decide) rfl rfl) ?_
  rintro e w13 ⟨rfl, hf13⟩
  have S12 := Lib.hid (S11.out.fr hf13)
  clear S11 hf13
  gi_wp2_with fail
  refine callW (got_i S12.out _ [97, 98, 120] 0 false (by rfl) (by decide) rfl rfl) ?_
  rintro e w14 ⟨rfl, hf14⟩
  have S13 := Lib.hid (S12.out.fr hf14)
  clear S12 hf14
  gi_wp2_with fail
  refine callW (got_i S13.out _ [] 0 false (by rfl) (by decide) rfl rfl) ?_
  rintro e w15 ⟨rfl, hf15⟩
  have S14 := Lib.hid (S13.out.fr hf15)
  clear S13 hf15
  gi_wp2_with fail
  refine callW (longest33_i S14.out _ [97, 98, 100] 5 2 true (by rfl) (by decide) rfl 2 rfl) ?_
  rintro e w16 ⟨rfl, hf16⟩
  have S15 := Lib.hid (S14.out.fr hf16)
  clear S14 hf16
  gi_wp2_with fail
  refine callW (longest33_i S15.out _ [97, 98, 99, 100] 3 3 true (by rfl) (by decide) rfl 3 rfl) ?_
  rintro e w17 ⟨rfl, hf17⟩
  have S16 := Lib.hid (S15.out.fr hf17)
  clear S15 hf17
  gi_wp2_with fail
  refine callW (longest33_i S16.out _ [99] 0 0 false (by rfl) (by decide) rfl 0 rfl) ?_
  rintro e w18 ⟨rfl, hf18⟩
  have S17 := Lib.hid (S16.out.fr hf18)
  clear S16 hf18
  gi_wp2_with fail
  refine callW (longest33_i S17.out _ [] 0 0 false (by rfl) (by decide) rfl 0 rfl) ?_
  rintro e w19 ⟨rfl, hf19⟩
  have S18 := Lib.hid (S17.out.fr hf19)
  clear S17 hf19
  gi_wp2_with fail
  refine callW (st_put S18.out none 0 [] 9 (by decide) (fun k hk => absurd hk (Nat.not_lt_zero k)) (fun ad e => by cases e) (by decide) (b := false) rfl rfl (D' := 3) (by decide) (by decide)) ?_
  rintro e w20 ⟨rfl, T20, S19⟩
  replace S19 : Hid (St Li w0 t A6 [[], [97], [97, 98], [98], [97, 98, 99]] 3 6 T20 w20) := Lib.hid S19
  clear S18
  gi_wp2_with fail
  refine callW (longest33_i S19.out _ [99] 9 0 true (by rfl) (by decide) rfl 0 rfl) ?_
  rintro e w21 ⟨rfl, hf21⟩
  have S20 := Lib.hid (S19.out.fr hf21)
  clear S19 hf21
  gi_wp2_with fail
  refine callW (longest33_i S20.out _ [] 9 0 true (by rfl) (by decide) rfl 0 rfl) ?_
  rintro e w22 ⟨rfl, hf22⟩
  have S21 := Lib.hid (S20.out.fr hf22)
  clear S20 hf22
  gi_wp2_with fail
  refine callW (got_i S21.out _ [] 9 true (by rfl) (by decide) rfl rfl) ?_
  rintro e w23 ⟨rfl, hf23⟩
  have S22 := Lib.hid (S21.out.fr hf23)
  clear S21 hf23
  gi_wp2_with fail
  obtain ⟨w24, hw24⟩ : ∃ w24, w24 = w23.alloc (.cells #[.string { data := #[] }] 9) := ⟨_, rfl⟩
  have hbw24 : Below w23.heap.size w23 w24 := by rw [hw24]; exact (Below.refl _ _).alloc (Nat.le_refl _) _
  have Bxbx4 : Boxed w24 w23.heap.size 9 (.string { data := #[] }) := by rw [hw24]; exact heap_alloc_eq _ _
  have S23 := Lib.hid (S22.out.new hbw24)
  have hTbx4 : Hid (∀ j, T20.own j → j < w23.heap.size) := Lib.hid fun j hj => S22.out.rep.lt hj
  replace Bxbx4 := Lib.hid Bxbx4
  have hSbx4 : Hid (w0.heap.size ≤ w23.heap.size) := Lib.hid S22.out.below.size
  rw [← hw24]
  clear hw24 hbw24 S22
  generalize w23.heap.size = bx4 at *
  refine callW (st_all S23.out (by decide) (by decide) A6_int (by decide)) ?_
  rintro e w25 ⟨br, bt, rv, tv, rvals, rfl, hC, hb25⟩
  rw [all_eq S23.out.rep.ok (fun q hq => Nat.lt_succ_of_le (S23.out.small.1 q hq)) S23.out.hf] at hC
  have S24 := Lib.hid (S23.out.new hb25)
  replace Bxbx4 := Lib.hid (boxed_new Bxbx4.out hb25)
  replace hC := Lib.hid hC
  clear S23 hb25
  gi_wp2_with fail
  refine wp_range_rows (B := w24.heap.size) (br := br) (bt := bt) (rv := rv) (tv := tv) (rvals := rvals) (res := resAll) rfl rfl (fun k W => Fr (fun j => j = bx4 ∨ Two w25.heap.size j) w25 W ∧ Boxed W bx4 9 (.string (accOf ((resAll.take k).map (·.1))))) (fun _ _ => False) ?hCbx4 (by decide) (by decide) ?hIbx4 ?hIxbx4 ?h0bx4 ?hroundbx4 ?hdonebx4 ?hstopbx4
  case hCbx4 =>
    intro k W h
    refine hC.out.frT h.1 fun j hj c t f hc => ?_
    rcases hj with rfl | hj
    · have := Bxbx4.out.symm.trans hc
      injection this with this
      injection this with _ this
      rw [← this]; decide
    · have := lt_of_heap hc
      rcases hj with rfl | rfl <;> omega
  case hIbx4 => exact fun k W W' h hf => ⟨h.1.trans hf fun j _ hj => .inr hj, hf.heap h.2 (fun hS => by have := Bxbx4.out.lt; rcases hS with rfl | rfl <;> omega)⟩
  case hIxbx4 => exact fun _ _ _ h _ => h
  case h0bx4 => exact ⟨Fr.refl _ _, Bxbx4.out⟩
  case hstopbx4 => exact fun _ _ h _ => h.elim
  case hroundbx4 =>
    rintro l k A cap p v W W2 hkv ⟨⟨W0, ⟨hF0, hB0⟩, hF02, hsz, hfr⟩, hrd, hn0, hcap⟩
    have hlt := Bxbx4.out.lt
    have hBx : Boxed W2 bx4 9 (.string (accOf ((resAll.take k).map (·.1)))) := hF02.heap hB0 (fun hS => by rcases hS with rfl | rfl <;> omega)
    have hc1 := hBx.cell
    have hc2 := hBx.frozen
    have hcv := conv_str hrd hn0 hcap
    have hac := acc_small (res := resAll) (by kernel_rfl) (by decide) hkv
    have hrb := row_small (res := resAll) (by decide) hkv
    have hab : (accOf ((resAll.take k).map (·.1)) ++ runesBytes p).size ≤ 1012 := by rw [ByteArray.size_append]; omega
    have hnx : Hid (rowPost w25.heap.size (fun W => Fr (fun j => j = bx4 ∨ Two w25.heap.size j) w25 W ∧ Boxed W bx4 9 (.string (accOf ((resAll.take (k + 1)).map (·.1))))) (fun _ _ => False) W2 .normal { tmps := #[], defers := [] } (W2.setCell ⟨bx4, 0, none⟩ (.string (accOf ((resAll.take k).map (·.1)) ++ runesBytes p ++ ⟨#[59]⟩)))) := by
      refine Lib.hid ⟨fun j hj => heap_set_ne _ (by rcases hj with rfl | rfl <;> (simp only; omega)), ?_, ?_⟩
      · exact (hF0.trans hF02 fun j _ hj => .inr hj).setCell (p := ⟨bx4, 0, none⟩) (.inl (.inl rfl)) _
      · rw [accOf_next hkv]; exact hBx.set _
    clear hF0 hB0 hF02 hfr hrd hn0 hcap hBx hkv
    generalize accOf ((resAll.take k).map (·.1)) = ac at *
    generalize runesBytes p = rb at *
    gi_wp2
    refine ⟨trivial, ?_⟩
    gi_wp2
    exact hnx.out
  rintro w26 ⟨hF, hB⟩ hD
  rw [List.take_length, accAll] at hB
  have S25 : Hid (St Li w0 t A6 [[], [97], [97, 98], [98], [97, 98, 99]] 3 6 T20 w26) := Lib.hid (S24.out.frT hF (fun j hj hS => by
    have h1 := hTbx4.out j hj
    have h2 := Bxbx4.out.lt
    rcases hS with rfl | rfl | rfl <;> omega) (fun j hS => by
    have h1 := hSbx4.out
    have h2 := Bxbx4.out.lt
    rcases hS with rfl | rfl | rfl <;> omega))
  have hTDd1 : Hid (∀ j, T20.own j → j < w25.heap.size) := Lib.hid fun j hj => S24.out.rep.lt hj
  have Dd1 : Hid (w26.heap[w25.heap.size]? = some (.deferred (some []))) := Lib.hid hD
  have hLt1 : Hid (bx4 < w25.heap.size) := Lib.hid Bxbx4.out.lt
  replace Bxbx4 := Lib.hid hB
  clear hF hB hD S24 hC
  have hLt1b := hLt1
  have hM1 : Hid (bx4 ≤ w25.heap.size) := Lib.hid (Nat.le_of_lt hLt1.out)
  have hQ1 : Hid (w.heap.size < w25.heap.size) := Lib.hid (by have h1 := hSbx4.out; have h2 := hLt1b.out; omega)
  clear hLt1 hLt1b
  generalize w25.heap.size = d1 at *
  gi_wp2_with fail
  obtain ⟨w27, hw27⟩ : ∃ w27, w27 = w26.alloc (.cells #[.string { data := #[] }] 9) := ⟨_, rfl⟩
  have hbw27 : Below w26.heap.size w26 w27 := by rw [hw27]; exact (Below.refl _ _).alloc (Nat.le_refl _) _
  have Bxbx6 : Boxed w27 w26.heap.size 9 (.string { data := #[] }) := by rw [hw27]; exact heap_alloc_eq _ _
  have S26 := Lib.hid (S25.out.new hbw27)
  have hTbx6 : Hid (∀ j, T20.own j → j < w26.heap.size) := Lib.hid fun j hj => S25.out.rep.lt hj
  replace Bxbx6 := Lib.hid Bxbx6
  have hSbx6 : Hid (w0.heap.size ≤ w26.heap.size) := Lib.hid S25.out.below.size
  have hNBxbx4bx6 := Lib.hid (lt_of_heap Bxbx4.out)
  replace Bxbx4 := Lib.hid (keep_new Bxbx4.out hbw27)
  have hNDd1bx6 := Lib.hid (lt_of_heap Dd1.out)
  replace Dd1 := Lib.hid (keep_new Dd1.out hbw27)
  rw [← hw27]
  clear hw27 hbw27 S25
  generalize w26.heap.size = bx6 at *
  gi_wp2_with fail
  refine callW (runes_any w27 _ [97, 98] (by rfl) (by decide)) ?_
  rintro e w28 ⟨Adw28, capw28, rfl, rw28, -, -, hfw28⟩
  replace rw28 := Lib.hid rw28
  have S27 := Lib.hid (S26.out.fr hfw28)
  replace Bxbx6 := Lib.hid (boxed_fr Bxbx6.out hfw28)
  replace Bxbx4 := Lib.hid (heap_fr Bxbx4.out hfw28)
  replace Dd1 := Lib.hid (heap_fr Dd1.out hfw28)
  clear S26 hfw28
  gi_wp2_with fail
  refine callW (st_below S27.out (some Adw28) capw28 [97, 98] rw28.out (fun e => by cases e) (by decide) (by decide) (by decide) A6_int (by decide)) ?_
  rintro e w29 ⟨br, bt, rv, tv, rvals, rfl, hC, hbw29⟩
  rw [ab_eq S27.out.rep.ok (fun q hq => Nat.lt_succ_of_le (S27.out.small.1 q hq)) S27.out.hf] at hC
  have S28 := Lib.hid (S27.out.new hbw29)
  replace Bxbx6 := Lib.hid (boxed_new Bxbx6.out hbw29)
  replace Bxbx4 := Lib.hid (keep_new Bxbx4.out hbw29)
  replace Dd1 := Lib.hid (keep_new Dd1.out hbw29)
  replace hC := Lib.hid hC
  clear S27 hbw29 rw28
  gi_wp2_with fail
  refine wp_range_rows (B := w28.heap.size) (br := br) (bt := bt) (rv := rv) (tv := tv) (rvals := rvals) (res := resAb) rfl rfl (fun k W => Fr (fun j => j = bx6 ∨ Two w29.heap.size j) w29 W ∧ Boxed W bx6 9 (.string (accOf ((resAb.take k).map (·.1))))) (fun _ _ => False) ?hCbx6 (by decide) (by decide) ?hIbx6 ?hIxbx6 ?h0bx6 ?hroundbx6 ?hdonebx6 ?hstopbx6
  case hCbx6 =>
    intro k W h
    refine hC.out.frT h.1 fun j hj c t f hc => ?_
    rcases hj with rfl | hj
    · have := Bxbx6.out.symm.trans hc
      injection this with this
      injection this with _ this
      rw [← this]; decide
    · have := lt_of_heap hc
      rcases hj with rfl | rfl <;> omega
  case hIbx6 => exact fun k W W' h hf => ⟨h.1.trans hf fun j _ hj => .inr hj, hf.heap h.2 (fun hS => by have := Bxbx6.out.lt; rcases hS with rfl | rfl <;> omega)⟩
  case hIxbx6 => exact fun _ _ _ h _ => h
  case h0bx6 => exact ⟨Fr.refl _ _, Bxbx6.out⟩
  case hstopbx6 => exact fun _ _ h _ => h.elim
  case hroundbx6 =>
    rintro l k A cap p v W W2 hkv ⟨⟨W0, ⟨hF0, hB0⟩, hF02, hsz, hfr⟩, hrd, hn0, hcap⟩
    have hlt := Bxbx6.out.lt
    have hBx : Boxed W2 bx6 9 (.string (accOf ((resAb.take k).map (·.1)))) := hF02.heap hB0 (fun hS => by rcases hS with rfl | rfl <;> omega)
    have hc1 := hBx.cell
    have hc2 := hBx.frozen
    have hcv := conv_str hrd hn0 hcap
    have hac := acc_small (res := resAb) (by kernel_rfl) (by decide) hkv
    have hrb := row_small (res := resAb) (by decide) hkv
    have hab : (accOf ((resAb.take k).map (·.1)) ++ runesBytes p).size ≤ 1012 := by rw [ByteArray.size_append]; omega
    have hnx : Hid (rowPost w29.heap.size (fun W => Fr (fun j => j = bx6 ∨ Two w29.heap.size j) w29 W ∧ Boxed W bx6 9 (.string (accOf ((resAb.take (k + 1)).map (·.1))))) (fun _ _ => False) W2 .normal { tmps := #[], defers := [] } (W2.setCell ⟨bx6, 0, none⟩ (.string (accOf ((resAb.take k).map (·.1)) ++ runesBytes p ++ ⟨#[59]⟩)))) := by
      refine Lib.hid ⟨fun j hj => heap_set_ne _ (by rcases hj with rfl | rfl <;> (simp only; omega)), ?_, ?_⟩
      · exact (hF0.trans hF02 fun j _ hj => .inr hj).setCell (p := ⟨bx6, 0, none⟩) (.inl (.inl rfl)) _
      · rw [accOf_next hkv]; exact hBx.set _
    clear hF0 hB0 hF02 hfr hrd hn0 hcap hBx hkv
    generalize accOf ((resAb.take k).map (·.1)) = ac at *
    generalize runesBytes p = rb at *
    gi_wp2
    refine ⟨trivial, ?_⟩
    gi_wp2
    exact hnx.out
  rintro w30 ⟨hF, hB⟩ hD
  rw [List.take_length, accAb] at hB
  have S29 : Hid (St Li w0 t A6 [[], [97], [97, 98], [98], [97, 98, 99]] 3 6 T20 w30) := Lib.hid (S28.out.frT hF (fun j hj hS => by
    have h1 := hTbx6.out j hj
    have h2 := Bxbx6.out.lt
    rcases hS with rfl | rfl | rfl <;> omega) (fun j hS => by
    have h1 := hSbx6.out
    have h2 := Bxbx6.out.lt
    rcases hS with rfl | rfl | rfl <;> omega))
  have hTDd2 : Hid (∀ j, T20.own j → j < w29.heap.size) := Lib.hid fun j hj => S28.out.rep.lt hj
  replace Bxbx4 := Lib.hid (hF.heap Bxbx4.out fun hS => by have h1 := hNBxbx4bx6.out; have h2 := lt_of_heap Bxbx4.out; rcases hS with rfl | rfl | rfl <;> omega)
  replace Dd1 := Lib.hid (hF.heap Dd1.out fun hS => by have h1 := hNDd1bx6.out; have h2 := lt_of_heap Dd1.out; rcases hS with rfl | rfl | rfl <;> omega)
  have Dd2 : Hid (w30.heap[w29.heap.size]? = some (.deferred (some []))) := Lib.hid hD
  have hLt1 : Hid (bx6 < w29.heap.size) := Lib.hid Bxbx6.out.lt
  replace Bxbx6 := Lib.hid hB
  clear hF hB hD S28 hC
  have hM2 : Hid (bx4 ≤ w29.heap.size) := Lib.hid (by have h1 := hLt1.out; have h2 := hNBxbx4bx6.out; omega)
  have hQ2 : Hid (d1 < w29.heap.size) := Lib.hid (by have h1 := hNDd1bx6.out; have h2 := hLt1.out; omega)
  clear hLt1
  generalize w29.heap.size = d2 at *
  gi_wp2_with fail
  refine callW (runes_any w30 _ [120] (by rfl) (by decide)) ?_
  rintro e w31 ⟨Adw31, capw31, rfl, rw31, -, -, hfw31⟩
  replace rw31 := Lib.hid rw31
  have S30 := Lib.hid (S29.out.fr hfw31)
  replace Bxbx4 := Lib.hid (heap_fr Bxbx4.out hfw31)
  replace Bxbx6 := Lib.hid (heap_fr Bxbx6.out hfw31)
  replace Dd1 := Lib.hid (heap_fr Dd1.out hfw31)
  replace Dd2 := Lib.hid (heap_fr Dd2.out hfw31)
  clear S29 hfw31
  gi_wp2_with fail
  refine callW (st_below S30.out (some Adw31) capw31 [120] rw31.out (fun e => by cases e) (by decide) (by decide) (by decide) A6_int (by decide)) ?_
  rintro e w32 ⟨br, bt, rv, tv, rvals, rfl, hC, hbw32⟩
  rw [x_eq S30.out.rep.ok (fun q hq => Nat.lt_succ_of_le (S30.out.small.1 q hq)) S30.out.hf] at hC
  have S31 := Lib.hid (S30.out.new hbw32)
  replace Bxbx4 := Lib.hid (keep_new Bxbx4.out hbw32)
  replace Bxbx6 := Lib.hid (keep_new Bxbx6.out hbw32)
  replace Dd1 := Lib.hid (keep_new Dd1.out hbw32)
  replace Dd2 := Lib.hid (keep_new Dd2.out hbw32)
  replace hC := Lib.hid hC
  clear S30 hbw32 rw31
  gi_wp2_with fail
  refine wp_range_rows (B := w31.heap.size) (br := br) (bt := bt) (rv := rv) (tv := tv) (rvals := rvals) (res := []) rfl rfl (fun _ W => Fr (Two w32.heap.size) w32 W) (fun _ _ => False) ?hC3 (by simp) (by decide) ?hI3 ?hIx3 ?h03 ?hround3 ?hdone3 ?hstop3
  case hC3 =>
    intro k W h
    refine hC.out.frT h fun j hj c t f hc => ?_
    have := lt_of_heap hc
    rcases hj with rfl | rfl <;> omega
  case hI3 => exact fun _ _ _ h hf => h.trans hf fun _ _ hj => hj
  case hIx3 => exact fun _ _ _ h _ => h
  case h03 => exact Fr.refl _ _
  case hstop3 => exact fun _ _ h _ => h.elim
  case hround3 =>
    rintro l k A cap p v W W2 hkv
    simp at hkv
  rintro w33 hF hD
  have S32 : Hid (St Li w0 t A6 [[], [97], [97, 98], [98], [97, 98, 99]] 3 6 T20 w33) := Lib.hid (S31.out.frT hF (fun j hj hS => by
    have h1 := S31.out.rep.lt hj
    rcases hS with rfl | rfl <;> omega) (fun j hS => by
    have h1 := S31.out.below.size
    rcases hS with rfl | rfl <;> omega))
  have hQ3 : Hid (d2 < w32.heap.size) := Lib.hid (lt_of_heap Dd2.out)
  have hM3 : Hid (bx4 ≤ w32.heap.size) := Lib.hid (Nat.le_of_lt (lt_of_heap Bxbx4.out))
  replace Bxbx4 := Lib.hid (hF.heap Bxbx4.out fun hS => by have h2 := lt_of_heap Bxbx4.out; rcases hS with rfl | rfl <;> omega)
  replace Bxbx6 := Lib.hid (hF.heap Bxbx6.out fun hS => by have h2 := lt_of_heap Bxbx6.out; rcases hS with rfl | rfl <;> omega)
  replace Dd1 := Lib.hid (hF.heap Dd1.out fun hS => by have h2 := lt_of_heap Dd1.out; rcases hS with rfl | rfl <;> omega)
  replace Dd2 := Lib.hid (hF.heap Dd2.out fun hS => by have h2 := lt_of_heap Dd2.out; rcases hS with rfl | rfl <;> omega)
  have Dd3 := Lib.hid hD
  have hc4 := Boxed.cell Bxbx4.out
  have hc6 := Boxed.cell Bxbx6.out
  clear hF hD S31 hC Bxbx4 Bxbx6
  generalize w32.heap.size = d3 at *
  gi_wp2_with fail
  refine callW (runes_any w33 _ [97, 98] (by rfl) (by decide)) ?_
  rintro e w34 ⟨Adw34, capw34, rfl, rw34, -, -, hfw34⟩
  replace rw34 := Lib.hid rw34
  have S33 := Lib.hid (S32.out.fr hfw34)
  replace Dd1 := Lib.hid (heap_fr Dd1.out hfw34)
  replace Dd2 := Lib.hid (heap_fr Dd2.out hfw34)
  replace Dd3 := Lib.hid (heap_fr Dd3.out hfw34)
  clear S32 hfw34
  clear hc4 hc6
  gi_wp2_with fail
  refine callW (stf_take S33.out (some Adw34) capw34 [97, 98] (by decide) rw34.out (by decide) (b := true) rfl (ps' := [[], [97], [98], [97, 98, 99]]) (by rfl)) ?_
  rintro e w35 ⟨rfl, Tw35, S34, Fw35, ow35⟩
  replace S34 : Hid (St Li w0 t A7 [[], [97], [98], [97, 98, 99]] 3 6 Tw35 w35) := Lib.hid S34
  replace Dd1 := Lib.hid (Fw35.heap Dd1.out fun hS => by have h1 := hTbx4.out _ hS; have h2 := hM1.out; omega)
  replace Dd2 := Lib.hid (Fw35.heap Dd2.out fun hS => by have h1 := hTbx4.out _ hS; have h2 := hM2.out; omega)
  replace Dd3 := Lib.hid (Fw35.heap Dd3.out fun hS => by have h1 := hTbx4.out _ hS; have h2 := hM3.out; omega)
  have hTw35 : Hid (∀ j, Tw35.own j → j < bx4) := Lib.hid fun j hj => hTbx4.out j (ow35 j hj)
  clear S33 Fw35 ow35 hTbx4
  gi_wp2_with fail
  refine callW (runes_any w35 _ [97, 98] (by rfl) (by decide)) ?_
  rintro e w36 ⟨Adw36, capw36, rfl, rw36, -, -, hfw36⟩
  replace rw36 := Lib.hid rw36
  have S35 := Lib.hid (S34.out.fr hfw36)
  replace Dd1 := Lib.hid (heap_fr Dd1.out hfw36)
  replace Dd2 := Lib.hid (heap_fr Dd2.out hfw36)
  replace Dd3 := Lib.hid (heap_fr Dd3.out hfw36)
  clear S34 hfw36
  gi_wp2_with fail
  refine callW (stf_take S35.out (some Adw36) capw36 [97, 98] (by decide) rw36.out (by decide) (b := false) rfl (ps' := [[], [97], [98], [97, 98, 99]]) (by rfl)) ?_
  rintro e w37 ⟨rfl, Tw37, S36, Fw37, ow37⟩
  replace S36 : Hid (St Li w0 t A8 [[], [97], [98], [97, 98, 99]] 3 6 Tw37 w37) := Lib.hid S36
  replace Dd1 := Lib.hid (Fw37.heap Dd1.out fun hS => by have h1 := hTw35.out _ hS; have h2 := hM1.out; omega)
  replace Dd2 := Lib.hid (Fw37.heap Dd2.out fun hS => by have h1 := hTw35.out _ hS; have h2 := hM2.out; omega)
  replace Dd3 := Lib.hid (Fw37.heap Dd3.out fun hS => by have h1 := hTw35.out _ hS; have h2 := hM3.out; omega)
  have hTw37 : Hid (∀ j, Tw37.own j → j < bx4) := Lib.hid fun j hj => hTw35.out j (ow37 j hj)
  clear S35 Fw37 ow37 hTw35
  gi_wp2_with fail
  refine callW (longest33_i S36.out _ [97, 98, 100] 1 1 true (by rfl) (by decide) rfl 1 rfl) ?_
  rintro e w38 ⟨rfl, hfw38⟩
  have S37 := Lib.hid (S36.out.fr hfw38)
  replace Dd1 := Lib.hid (heap_fr Dd1.out hfw38)
  replace Dd2 := Lib.hid (heap_fr Dd2.out hfw38)
  replace Dd3 := Lib.hid (heap_fr Dd3.out hfw38)
  clear S36 hfw38
  gi_wp2_with fail
  refine callW (st_len S37.out (n := 4) rfl) ?_
  rintro e _ ⟨rfl, rfl⟩
  gi_wp2_with fail
  refine callW (stf_take S37.out none 0 [] (by decide) (fun k hk => absurd hk (Nat.not_lt_zero k)) (by decide) (b := true) rfl (ps' := [[97], [98], [97, 98, 99]]) (by rfl)) ?_
  rintro e w39 ⟨rfl, Tw39, S38, Fw39, ow39⟩
  replace S38 : Hid (St Li w0 t A9 [[97], [98], [97, 98, 99]] 3 6 Tw39 w39) := Lib.hid S38
  replace Dd1 := Lib.hid (Fw39.heap Dd1.out fun hS => by have h1 := hTw37.out _ hS; have h2 := hM1.out; omega)
  replace Dd2 := Lib.hid (Fw39.heap Dd2.out fun hS => by have h1 := hTw37.out _ hS; have h2 := hM2.out; omega)
  replace Dd3 := Lib.hid (Fw39.heap Dd3.out fun hS => by have h1 := hTw37.out _ hS; have h2 := hM3.out; omega)
  have hTw39 : Hid (∀ j, Tw39.own j → j < bx4) := Lib.hid fun j hj => hTw37.out j (ow39 j hj)
  clear S37 Fw39 ow39 hTw37
  gi_wp2_with fail
  refine callW (longest33_i S38.out _ [99] 0 0 false (by rfl) (by decide) rfl 0 rfl) ?_
  rintro e w40 ⟨rfl, hfw40⟩
  have S39 := Lib.hid (S38.out.fr hfw40)
  replace Dd1 := Lib.hid (heap_fr Dd1.out hfw40)
  replace Dd2 := Lib.hid (heap_fr Dd2.out hfw40)
  replace Dd3 := Lib.hid (heap_fr Dd3.out hfw40)
  clear S38 hfw40
  have hbx40 : Hid (Boxed w40 w.heap.size 4 (.bool false)) := Lib.hid ((S39.out.below.block _ (by omega)).trans hbox.out)
  have hb40 : Hid (Below w.heap.size w w40) := Lib.hid (hb0.trans (S39.out.below.mono (by omega)))
  clear S39 hbox hb0 hw0 hTw39 hM1 hM2 hM3
  gi_wp2_with fail
  refine callW (st_new w40) ?_
  rintro e w41 ⟨u, rfl, U0⟩
  replace U0 := Lib.hid U0
  gi_wp2
  obtain ⟨w42, hw42⟩ : ∃ w42, w42 = tow w41 (objsU w41.heap.size) := ⟨_, rfl⟩
  have hU42 : U17 w41.heap.size w42 := by rw [hw42]; exact U17.tow w41
  have hb42 : Below w41.heap.size w41 w42 := by rw [hw42]; exact tow_below _ _
  change Code.wpIn Fence.wide n Try.prog _ _ _ (tow w41 (objsU w41.heap.size))
  rw [← hw42]
  have H0 : Hid (URel w40 u w41.heap.size 0 w42) := Lib.hid ⟨[], _, Nat.le_refl _, (U0.out.new hb42).weak (by omega) (Nat.le_refl _), hU42, fun j hj => .inl (U0.out.rep.lt hj)⟩
  clear U0 hw42 hb42 hU42
  simp only [Nat.add_assoc, Nat.reduceAdd]
  generalize w41.heap.size = s0 at *
  gi_loopw [12] (fun i wr => ∃ k : Nat, k ≤ 7 ∧ i = .int .i64 k ∧ Hid (URel w40 u s0 k wr)) (fun i _ => 7 - (intOf i).toNat)
  case atStart => exact ⟨0, Nat.zero_le _, rfl, H0⟩
  case round =>
    obtain ⟨k, hk, rfl, hrel⟩ := hrel
    obtain ⟨ps, T, hps, S, hU, hO⟩ := hrel.out
    clear hrel H0
    by_cases hlt : k < 7
    · obtain ⟨hc, hrd, hle⟩ := hU.rows_at hlt
      have hput := stf_put S (some ⟨s0 + k, 0, none⟩) (rowsU.getD k []).length (rowsU.getD k []) (k : Int) (by omega) hrd (fun ad e _ ho => by
        cases e
        have := hO _ ho
        simp only at this
        omega) (by omega) rfl rfl (D' := 2) (Nat.le_refl _) hle
      have hnext : Hid (∀ e w', PutF w40 u (putsF rowsU k (rowsU.getD k [])).isSome (fun q => if q = rowsU.getD k [] then some (Value.int IntKind.i64 (k : Int)) else putsF rowsU k q)
          (if (putsF rowsU k (rowsU.getD k [])).isSome = true then ps else rowsU.getD k [] :: ps) 2 (k + 1) T wr e w' → URel w40 u s0 (k + 1) w') := Lib.hid fun e w' ⟨_, T', h1, h2, h3⟩ => by
        refine ⟨_, T', ?_, h1, hU.keep h2 hO, fun j hj => ?_⟩
        · split
          · omega
          · simp only [List.length_cons]; omega
        · rcases h3 j hj with h | h
          · exact hO j h
          · have := lt_of_heap (hU 16 (by omega))
            omega
      replace hput := Lib.hid hput
      clear S hU hO hrd
      have hk1 : (0 : Int) ≤ (k : Int) := by omega
      have hk2 : (k : Int) < 7 := by omega
      generalize rowsU.getD k [] = zs at *
      generalize (putsF rowsU k zs).isSome = bb at *
      gi_wp2_with fail
      refine callW hput.out ?_
      intro e w43 hq
      have hk3 := Lib.hid (hnext.out _ _ hq)
      obtain ⟨rfl, -⟩ := hq
      clear hput hnext hc
      gi_wp2
      exact ⟨⟨k + 1, by omega, by simp, hk3⟩, by simp [intOf]; omega⟩
    · have hk7 : k = 7 := by omega
      subst hk7
      replace S := Lib.hid S
      replace hU := Lib.hid hU
      clear hO
      gi_wp2_with fail
      have hUs := Lib.hid (lt_of_heap (hU.out 16 (by omega)))
      obtain ⟨w44, hw44⟩ : ∃ w44, w44 = wr.alloc (.cells #[.int .i64 0] 3) := ⟨_, rfl⟩
      have hb44 : Below wr.heap.size wr w44 := by rw [hw44]; exact (Below.refl _ _).alloc (Nat.le_refl _) _
      have Bk : Hid (Boxed w44 wr.heap.size 3 (.int .i64 0)) := Lib.hid (by rw [hw44]; exact heap_alloc_eq _ _)
      have hkl : Hid (wr.heap.size < w44.heap.size) := Lib.hid (by rw [hw44]; simp)
      have hk40 : Hid (w40.heap.size ≤ wr.heap.size) := Lib.hid S.out.below.size
      have S44 := Lib.hid (S.out.new hb44)
      have U44 := Lib.hid (hU.out.keep (Fr.of_below hb44 Nob) (fun _ h => h.elim))
      rw [← hw44]
      clear hw44 hb44 S hU
      generalize wr.heap.size = kb at *
      refine callW (st_all S44.out (by decide) (by decide) putsF_int (by decide)) ?_
      rintro e w45 ⟨br, bt, rv, tv, rvals, rfl, hC, hb45⟩
      rw [u_eq S44.out.rep.ok (fun q hq => Nat.lt_succ_of_le (S44.out.small.1 q hq)) S44.out.hf] at hC
      have S45 := Lib.hid (S44.out.new hb45)
      have U45 := Lib.hid (U44.out.keep (Fr.of_below hb45 Nob) (fun _ h => h.elim))
      have Bk5 := Lib.hid (boxed_new Bk.out hb45)
      replace hC := Lib.hid hC
      clear S44 U44 Bk hb45
      gi_wp2_with fail
      have h45 : Hid (s0 + 17 ≤ kb ∧ kb < w45.heap.size) := Lib.hid ⟨by have := hUs.out; omega, Bk5.out.lt⟩
      refine wp_range_rows (B := w44.heap.size) (br := br) (bt := bt) (rv := rv) (tv := tv) (rvals := rvals) (res := resU) rfl rfl (fun k W => Fr (fun j => j = kb ∨ Two w45.heap.size j) w45 W ∧ Boxed W kb 3 (.int .i64 (k : Int))) (fun _ _ => False) ?hC4 (by decide) (by decide) ?hI4 ?hIx4 ?h04 ?hround4 ?hdone4 ?hstop4
      case hC4 =>
        intro k W h
        refine hC.out.frB h.1 (fun j hj => ?_) fun j hj c t f hc => ?_
        · have := hkl.out
          rcases hj with rfl | rfl | rfl <;> omega
        · rcases hj with rfl | hj
          · have := Bk5.out.symm.trans hc
            injection this with this
            injection this with _ this
            rw [← this]; decide
          · have := lt_of_heap hc
            rcases hj with rfl | rfl <;> omega
      case hI4 => exact fun k W W' h hf => ⟨h.1.trans hf fun j _ hj => .inr hj, hf.heap h.2 (fun hS => by have := h45.out; rcases hS with rfl | rfl <;> omega)⟩
      case hIx4 => exact fun _ _ _ h _ => h
      case h04 => exact ⟨Fr.refl _ _, Bk5.out⟩
      case hstop4 => exact fun _ _ h _ => h.elim
      case hround4 =>
        rintro l k A cap p v W W2 hkv ⟨⟨W0, ⟨hF0, hB0⟩, hF02, hsz, hfr⟩, hrd, hn0, hcap⟩
        have hk7 : k < 7 := by
          rcases Nat.lt_or_ge k resU.length with h1 | h1
          · exact h1
          · rw [List.getElem?_eq_none h1] at hkv; cases hkv
        have hFF := hF0.trans hF02 fun j _ hj => .inr hj
        have hU2 := U45.out.keep hFF (fun j hj => by have := h45.out; rcases hj with rfl | rfl | rfl <;> omega)
        have hp : wantU.getD k [] = p := by rw [← resU_want]; simp [List.getD, hkv]
        obtain ⟨hw1, hw2, hw3⟩ := hU2.want_at hk7
        rw [hp] at hw1 hw2 hw3
        have hwb := hU2.box.cell
        have hBx : Boxed W2 kb 3 (.int .i64 (k : Int)) := hF02.heap hB0 (fun hS => by have := h45.out; rcases hS with rfl | rfl <;> omega)
        have hc1 := hBx.cell
        have hc2 := hBx.frozen
        have hsame := same_runes W2 A (some ⟨s0 + 8 + k, 0, none⟩) cap p.length p p (by omega) hrd.rd hw2
        rw [decide_eq_true rfl] at hsame
        replace hsame := Lib.hid hsame
        have hnx : Hid (∀ m, rowPost w45.heap.size (fun W => Fr (fun j => j = kb ∨ Two w45.heap.size j) w45 W ∧ Boxed W kb 3 (.int .i64 ((k + 1 : Nat) : Int))) (fun _ _ => False) W2 .normal { tmps := #[], defers := [] } ((W2.drewN m).setCell ⟨kb, 0, none⟩ (.int .i64 ((k : Int) + 1)))) := by
          refine Lib.hid fun m => ⟨fun j hj => heap_set_ne _ (by have := h45.out; rcases hj with rfl | rfl <;> (simp only; omega)), ?_, ?_⟩
          · exact (hFF.drewN m).setCell (p := ⟨kb, 0, none⟩) (.inl (.inl rfl)) _
          · rw [show ((k + 1 : Nat) : Int) = (k : Int) + 1 by omega]
            have hd : Boxed (W2.drewN m) kb 3 (.int .i64 (k : Int)) := hBx
            exact hd.set _
        have hk1 : (0 : Int) ≤ (k : Int) := by omega
        have hk2 : (k : Int) < 7 := by omega
        clear hF0 hB0 hF02 hfr hrd hn0 hcap hBx hkv hU2 hFF hw2 hp
        generalize p.length = pn at *
        gi_wp2
        refine ⟨trivial, ?_⟩
        gi_wp2_with fail
        refine callW hsame.out ?_
        rintro e _ ⟨rfl, m, rfl⟩
        gi_wp2
        exact hnx.out m
      rintro w46 ⟨hF, hB⟩ hD
      have hlt45 := h45.out
      have hk40' := hk40.out
      have hs45 := S45.out.below.size
      have b46 : Below w40.heap.size w40 w46 := S45.out.below.trans (hF.below hs45 (fun j hj => by rcases hj with rfl | rfl | rfl <;> omega))
      have hU46 := U45.out.keep hF (fun j hj => by rcases hj with rfl | rfl | rfl <;> omega)
      have g1 := (b46.block _ (lt_of_heap Dd1.out)).trans Dd1.out
      have g2 := (b46.block _ (lt_of_heap Dd2.out)).trans Dd2.out
      have g3 := (b46.block _ (lt_of_heap Dd3.out)).trans Dd3.out
      have gb : Boxed w46 w.heap.size 4 (.bool false) := (b46.block _ (lt_of_heap hbx40.out)).trans hbx40.out
      have hbb := hb40.out.trans (b46.mono hb40.out.size)
      have hdd : w.heap.size < d1 ∧ d1 < d2 ∧ d2 < d3 ∧ d3 < w45.heap.size := ⟨hQ1.out, hQ2.out, hQ3.out, by have := lt_of_heap Dd3.out; omega⟩
      clear hF hC
      gi_step
      gi_step
      exact known3 n w w46 w.heap.size s0 kb d1 d2 d3 w45.heap.size hbb rfl hdd gb hU46 hB g1 g2 g3 hD _ _ _ _ _ _ _ _ _ _ _ _ _ _ _ _ _ _ _ _ _ _ _ _ _ _ _ _ _ _ _ _ _ _ _ _ _ _ _ _ _ _ _ _ _ _ _ _ _ _ _ _ _ _ _ _ _ _ _ _ _ _ _ _ _ _ _ _ _ _ _ _ _ _ _ _ _ _ _ _ _ _ _ _ _ _ _ _ _ _ _ _ _ _ _ _ _ _ _ _ _ _ _ _ _ _ _ _ _ _ _ _ _ _ _ _ _ _ _ _ _ _ _ _ _ _ _ _ _ _ _ _ _ _ _ _ _ _ _ _ _ _ _ _ _ _ _ _ _ _ _ _ _ _ _ _ _ _ _ _ _ _ _ _ _ _ _ _ _ _ _ _ _ _ _ _ _ _ _ _ _ _ _ _ _ _ _ _ _ _ _ _ _ _
end Go.Proofs.Ytioflglfnalcaaa

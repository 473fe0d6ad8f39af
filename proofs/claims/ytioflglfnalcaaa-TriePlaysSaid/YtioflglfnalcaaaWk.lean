/- The walk of 'works'. -/
import Derived.Test.YtioflglfnalcaaaSt
namespace Go.Proofs.Ytioflglfnalcaaa
open Go.RowKit

def F1 : List Int → Option Value := fun q => if q = [97, 98] then some (.int .i64 2) else none
def F2 : List Int → Option Value := fun q => if q = [97] then some (.int .i64 1) else F1 q
def F3 : List Int → Option Value := fun q => if q = [97, 98] then some (.int .i64 5) else F2 q
def F4 : List Int → Option Value := fun q => if q = [97, 98] then none else F3 q
def F5 : List Int → Option Value := fun q => if q = [97, 98] then none else F4 q

theorem F3_int : ∀ p v, F3 p = some v → ∃ x, v = .int .i64 x := by
  intro p v h
  simp only [F3, F2, F1] at h
  split at h
  · exact ⟨5, by injection h with h; exact h.symm⟩
  · split at h
    · exact ⟨1, by injection h with h; exact h.symm⟩
    · cases h

theorem run_eql_func_nil (W : World) (a b : Array Value) : (binOp BinOp.eql 33 (.func (.func 48) a b) .nilFunc).run Try.prog W = .ok (.bool false) W := by kernel_rfl

def WorksP (w : World) (e : Ending) (w' : World) : Prop := e = .returned (.bool true) ∧ Below w.heap.size w w'

set_option maxHeartbeats 1000000 in
set_option maxRecDepth 100000 in
theorem works_i (w : World) : Calls Try.prog 8 #[] w (WorksP w) := by
  have hE := run_eql_func_nil
  go_enter Try.func8, Try.ntmps8
  go_wp2_with fail
  refine (st_new w).mono ?_
  rintro e w1 ⟨t, rfl, S0⟩
  replace S0 := Lib.hid S0
  go_wp2_with fail
  refine (st_runes S0.out _ [97, 98] (by rfl) (by decide)).mono ?_
  rintro e w2 ⟨A1, cap1, rfl, r1, a1, S1⟩
  replace S1 := Lib.hid S1
  replace r1 := Lib.hid r1
  clear S0
  go_wp2_with fail
  refine (st_put S1.out (some A1) cap1 [97, 98] 2 (by decide) r1.out (fun ad e _ => by cases e; exact a1) (by decide) (b := false) rfl rfl (Nat.zero_le 2) (by decide)).mono ?_
  rintro e w3 ⟨rfl, T1, S2⟩
  replace S2 : Hid (St Li w t F1 [[97, 98]] 2 1 T1 w3) := Lib.hid S2
  clear S1 r1 a1
  go_wp2_with fail
  refine (st_runes S2.out _ [97] (by rfl) (by decide)).mono ?_
  rintro e w4 ⟨A2, cap2, rfl, r2, a2, S3⟩
  replace S3 := Lib.hid S3
  replace r2 := Lib.hid r2
  clear S2
  go_wp2_with fail
  refine (st_put S3.out (some A2) cap2 [97] 1 (by decide) r2.out (fun ad e _ => by cases e; exact a2) (by decide) (b := false) rfl rfl (Nat.le_refl 2) (by decide)).mono ?_
  rintro e w5 ⟨rfl, T2, S4⟩
  replace S4 : Hid (St Li w t F2 [[97], [97, 98]] 2 2 T2 w5) := Lib.hid S4
  clear S3 r2 a2
  go_wp2_with fail
  refine (st_runes S4.out _ [97, 98] (by rfl) (by decide)).mono ?_
  rintro e w6 ⟨A3, cap3, rfl, r3, a3, S5⟩
  replace S5 := Lib.hid S5
  replace r3 := Lib.hid r3
  clear S4
  go_wp2_with fail
  refine (st_put S5.out (some A3) cap3 [97, 98] 5 (by decide) r3.out (fun ad e _ => by cases e; exact a3) (by decide) (b := true) rfl rfl (Nat.le_refl 2) (by decide)).mono ?_
  rintro e w7 ⟨rfl, T3, S6⟩
  replace S6 : Hid (St Li w t F3 [[97], [97, 98]] 2 3 T3 w7) := Lib.hid S6
  clear S5 r3 a3
  go_wp2_with fail
  refine (st_runes S6.out _ [97, 98] (by rfl) (by decide)).mono ?_
  rintro e w8 ⟨A4, cap4, rfl, r4, a4, S7⟩
  replace S7 := Lib.hid S7
  replace r4 := Lib.hid r4
  clear S6
  go_wp2_with fail
  refine (st_get S7.out (some A4) cap4 [97, 98] (by decide) r4.out (b := true) rfl (v := .int .i64 5) rfl).mono ?_
  rintro e _ ⟨rfl, rfl⟩
  go_wp2_with fail
  refine (st_runes S7.out _ [97, 98, 100] (by rfl) (by decide)).mono ?_
  rintro e w9 ⟨A5, cap5, rfl, r5, a5, S8⟩
  replace S8 := Lib.hid S8
  replace r5 := Lib.hid r5
  clear S7 r4 a4
  go_wp2_with fail
  refine (st_long S8.out (some A5) cap5 [97, 98, 100] (by decide) r5.out (v := .int .i64 5) (n := 2) (b := true) rfl).mono ?_
  rintro e _ ⟨rfl, k1, rfl⟩
  have S9 := Lib.hid (S8.out.drewN k1)
  clear S8 r5 a5
  generalize w9.drewN k1 = w10 at *
  have hint : Hid (∀ p v, F3 p = some v → ∃ x, v = .int .i64 x) := Lib.hid F3_int
  go_wp2_with fail
  refine (st_len S9.out (n := 2) rfl).mono ?_
  rintro e _ ⟨rfl, rfl⟩
  go_wp2_with fail
  refine (st_all S9.out (by decide) (by decide) hint.out (by decide)).mono ?_
  rintro e w11 ⟨br1, bt1, _, _, _, rfl, _, b1⟩
  have S10 := Lib.hid (S9.out.new b1)
  clear S9 b1
  go_wp2_with fail
  refine (st_below S10.out none 0 [] (fun k hk => absurd hk (Nat.not_lt_zero k)) (fun _ => rfl) (by decide) (by decide) (by decide) hint.out (by decide)).mono ?_
  rintro e w12 ⟨br2, bt2, _, _, _, rfl, _, b2⟩
  have S11 := Lib.hid (S10.out.new b2)
  clear S10 b2
  go_wp2_with fail
  refine (st_runes S11.out _ [97, 98] (by rfl) (by decide)).mono ?_
  rintro e w13 ⟨A6, cap6, rfl, r6, a6, S12⟩
  replace S12 := Lib.hid S12
  replace r6 := Lib.hid r6
  clear S11
  go_wp2_with fail
  refine (st_take S12.out (some A6) cap6 [97, 98] (by decide) r6.out (by decide) (b := true) rfl rfl).mono ?_
  rintro e w14 ⟨rfl, T4, S13⟩
  replace S13 : Hid (St Li w t F4 [[97]] 2 3 T4 w14) := Lib.hid S13
  clear S12 r6 a6
  go_wp2_with fail
  refine (st_runes S13.out _ [97, 98] (by rfl) (by decide)).mono ?_
  rintro e w15 ⟨A7, cap7, rfl, r7, a7, S14⟩
  replace S14 := Lib.hid S14
  replace r7 := Lib.hid r7
  clear S13
  go_wp2_with fail
  refine (st_take S14.out (some A7) cap7 [97, 98] (by decide) r7.out (by decide) (b := false) rfl rfl).mono ?_
  rintro e w16 ⟨rfl, T5, S15⟩
  replace S15 : Hid (St Li w t F5 [[97]] 2 3 T5 w16) := Lib.hid S15
  clear S14 r7 a7
  go_wp2_with fail
  refine (st_len S15.out (n := 1) rfl).mono ?_
  rintro e _ ⟨rfl, rfl⟩
  have HP : Hid (WorksP w (.returned (.bool true)) w16) := ⟨rfl, S15.out.below⟩
  clear S15 hint
  go_wp2_with fail
  go_ret
  exact HP.out
end Go.Proofs.Ytioflglfnalcaaa

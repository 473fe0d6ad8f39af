/- slices.Sort at int32: cmp.Less, insertionSortOrdered. -/
import Derived.Sort.Statements
import Derived.RegionTactic
import Derived.BigRegion
import Derived.Test.YtioflglfnalcaaaWf
namespace Go.Proofs.Ytioflglfnalcaaa
open Go.RowKit

/-- Block g's first cells are the numbers d. -/
def RowI (w : World) (g : Nat) (d : Array Int) : Prop := ∃ rest, w.heap[g]? = some (.cells ((d.toList.map enc32).toArray ++ rest) 21 (0, 0))

theorem RowI.cell {w : World} {g : Nat} {d : Array Int} (h : RowI w g d) {i : Nat} (hi : i < d.size) : w.cell? ⟨g, i, none⟩ = some (.int .i32 d[i]!) := by
  obtain ⟨rest, h⟩ := h
  simp [World.cell?, h, hi, Array.getElem?_append, enc32]
theorem RowI.free {w : World} {g : Nat} {d : Array Int} (h : RowI w g d) (i : Nat) : w.frozen? ⟨g, i, none⟩ = false := by
  obtain ⟨rest, h⟩ := h
  simp [World.frozen?, h]
theorem RowI.set {w : World} {g : Nat} {d : Array Int} (h : RowI w g d) {i : Nat} (hi : i < d.size) (x : Int) : RowI (w.setCell ⟨g, i, none⟩ (.int .i32 x)) g (d.setIfInBounds i x) := by
  obtain ⟨rest, h⟩ := h
  refine ⟨rest, ?_⟩
  rw [heap_set_same _ h, Array.setIfInBounds_append_left (by simpa using hi)]
  simp [enc32, List.map_set]
theorem RowI.frame {w w' : World} {g : Nat} {d : Array Int} {S : Nat → Prop} (h : RowI w g d) (hf : Fr S w w') (hg : ¬ S g) : RowI w' g d := by
  obtain ⟨rest, h⟩ := h
  exact ⟨rest, hf.heap h hg⟩
theorem RowI.drewN {w : World} {g : Nat} {d : Array Int} (h : RowI w g d) (n : Nat) : RowI (w.drewN n) g d := h

theorem isnan_i (x : Int) (w : World) : Calls Try.prog 85 #[.int .i32 x] w fun e w' => e = .returned (.bool false) ∧ w' = w := by
  go_enter Try.func85, Try.ntmps85
  go_wp2
  go_ret
  exact ⟨by simp, rfl⟩

theorem less_i (x y : Int) (w : World) : Calls Try.prog 75 #[.int .i32 x, .int .i32 y] w fun e w' => e = .returned (.bool (decide (x < y))) ∧ w' = w := by
  go_enter Try.func75, Try.ntmps75
  go_wp2_with (go_at_call 85; refine (isnan_i _ _).mono ?_; rintro e w' ⟨rfl, rfl⟩)
  go_ret
  exact ⟨rfl, rfl⟩

def x_ge (d : Array Int) (j : Nat) : Prop := d[j]! ≤ d[j + 1]!

theorem swp_row {w : World} {g : Nat} {d : Array Int} (h : RowI w g d) {i j : Nat} (hi : i < d.size) (hj : j < d.size) : RowI ((w.setCell ⟨g, i, none⟩ (.int .i32 d[j]!)).setCell ⟨g, j, none⟩ (.int .i32 d[i]!)) g (Sort.swp d i j) :=
  (h.set hi _).set (by simpa using hj) _

set_option maxHeartbeats 400000 in
set_option maxRecDepth 100000 in
theorem ins_i (w : World) (g cap len : Nat) (d : Array Int) (a b : Nat) (hd : RowI w g d) (hlen : d.size = len) (hsz : len ≤ 35184372088832) (hab : a ≤ b) (hb : b ≤ len) :
    Calls Try.prog 69 #[.slice (some ⟨g, 0, none⟩) len cap, .int .i64 a, .int .i64 b] w fun e w' => e = .returned (.tuple #[]) ∧ RowI w' g (Sort.insertionSort Sort.ltInt d a b) ∧ Fr (· = g) w w' := by
  have H0 : Hid (Sort.insertionSort Sort.ltInt d a b = Sort.insOuter Sort.ltInt a b (a + 1) d) := rfl
  have Hd := Lib.hid hd
  have Hlen := Lib.hid hlen
  clear hd hlen
  go_enter Try.func69, Try.ntmps69
  go_wp2
  go_loopw [6] (fun i wr => ∃ k : Nat, ∃ dk : Array Int, a + 1 ≤ k ∧ i = .int .i64 k ∧ Hid (RowI wr g dk) ∧ Hid (dk.size = len) ∧ Hid (Fr (· = g) w wr) ∧ Hid (Sort.insertionSort Sort.ltInt d a b = Sort.insOuter Sort.ltInt a b k dk)) (fun i _ => b - (intOf i).toNat)
  case atStart => exact ⟨a + 1, d, by omega, by go_num, Hd, Hlen, Fr.refl _ _, H0⟩
  case round =>
    obtain ⟨k, dk, hak, rfl, hr, hl, hF, hI⟩ := hrel
    by_cases hkb : k < b
    · obtain ⟨wo, rfl⟩ : ∃ wo : World, wo = wr := ⟨_, rfl⟩
      go_wp2
      go_loopw [7] (fun i wr => ∃ j : Nat, ∃ dj : Array Int, a ≤ j ∧ j ≤ k ∧ i = .int .i64 j ∧ Hid (RowI wr g dj) ∧ Hid (dj.size = len) ∧ Hid (Fr (· = g) w wr) ∧ Hid (Sort.insInner Sort.ltInt a k dk = Sort.insInner Sort.ltInt a j dj)) (fun i _ => (intOf i).toNat)
      case atStart => exact ⟨k, dk, by omega, by omega, rfl, hr, hl, hF, rfl⟩
      case round =>
        obtain ⟨j, dj, haj, hjk, rfl, hr2, hl2, hF2, hI2⟩ := hrel
        by_cases hja : a < j
        · obtain ⟨j, rfl⟩ : ∃ m, j = m + 1 := ⟨j - 1, by omega⟩
          have hsz2 : dj.size = len := hl2.out
          have c1 := hr2.out.cell (i := j + 1) (by omega)
          have c0 := hr2.out.cell (i := j) (by omega)
          have f1 := hr2.out.free (j + 1)
          have f0 := hr2.out.free j
          have hs := Lib.hid (swp_row (i := j + 1) (j := j) hr2.out (by omega) (by omega))
          have hss : Hid ((Sort.swp dj (j + 1) j).size = len) := by unfold Sort.swp Hid; simpa using hsz2
          have hg1 : decide ((a : Int) < (j : Int) + 1) = true := by simp; omega
          have g0 : (0 : Int) ≤ (j : Int) := by omega
          have g1 : (j : Int) + 1 < (len : Int) := by omega
          have g2 : (j : Int) < (len : Int) := by omega
          have g3 : (0 : Int) ≤ (j : Int) + 1 := by omega
          have hjl : j + 1 < len := by omega
          clear hsz2
          by_cases hlt : dj[j + 1]! < dj[j]!
          · have H1 : Hid (Sort.insInner Sort.ltInt a k dk = Sort.insInner Sort.ltInt a j (Sort.swp dj (j + 1) j)) := by
              unfold Hid; rw [hI2.out]; simp [Sort.insInner, hja, Sort.ltInt, hlt]
            generalize dj[j + 1]! = x1 at c1 hs hlt
            generalize dj[j]! = x0 at c0 hs hlt
            go_wp2
            go_quiet ((go_at_call 75; exact Calls.quiet_of_same (less_i _ _ _)))
            go_wp2
            go_region
            all_goals go_wp2
            go_roundw
            case rel => exact ⟨j, _, by omega, by omega, by go_num, hs, hss, ((hF2.out.drewN _).setCell (p := ⟨g, j + 1, none⟩) (.inl rfl) _).setCell (p := ⟨g, j, none⟩) (.inl rfl) _, H1⟩
            case measure => simp [intOf]
          · have H1 : Hid (Sort.insertionSort Sort.ltInt d a b = Sort.insOuter Sort.ltInt a b (k + 1) dj) := by
              have e : Sort.insInner Sort.ltInt a (j + 1) dj = dj := by simp [Sort.insInner, Sort.ltInt, hlt]
              unfold Hid; rw [hI.out, Sort.insOuter, if_pos hkb, hI2.out, e]
            have hlt' : x_ge dj j := by unfold x_ge; omega
            unfold x_ge at hlt'
            generalize dj[j + 1]! = x1 at c1 hs hlt hlt'
            generalize dj[j]! = x0 at c0 hs hlt hlt'
            go_wp2
            go_quiet ((go_at_call 75; exact Calls.quiet_of_same (less_i _ _ _)))
            go_wp2
            go_roundw
            case rel => exact ⟨k + 1, dj, by omega, by go_num, hr2, hl2, hF2.out.drewN _, H1⟩
            case measure => simp [intOf]; omega
        · have e : j = a := by omega
          subst e
          have H1 : Hid (Sort.insertionSort Sort.ltInt d j b = Sort.insOuter Sort.ltInt j b (k + 1) dj) := by
            have e : Sort.insInner Sort.ltInt j j dj = dj := by cases j <;> simp [Sort.insInner]
            unfold Hid; rw [hI.out, Sort.insOuter, if_pos hkb, hI2.out, e]
          have hd1 : decide ((j : Int) < (j : Int)) = false := by simp
          go_wp2
          go_quiet (fail)
          go_wp2
          go_roundw
          case rel => exact ⟨k + 1, dj, by omega, by go_num, hr2, hl2, hF2.out.drewN _, H1⟩
          case measure => simp [intOf]; omega
    · have H1 : Hid (RowI wr g (Sort.insertionSort Sort.ltInt d a b)) := by
        unfold Hid; rw [hI.out, Sort.insOuter, if_neg hkb]; exact hr.out
      go_wp2
      go_end0
      exact ⟨rfl, H1.out, hF.out⟩
end Go.Proofs.Ytioflglfnalcaaa

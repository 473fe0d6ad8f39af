/- slices.Sort at int32: order2Ordered, medianOrdered, medianAdjacentOrdered, choosePivotOrdered. -/
import Derived.Deep.CutBlock
import Derived.Deep.DeepCutAuto
import Derived.Test.YtioflglfnalcaaaSe
namespace Go.Proofs.Ytioflglfnalcaaa
open Go.RowKit

/-- The count of swaps, in a block of its own. -/
def Cnt (w : World) (s n : Nat) : Prop := w.heap[s]? = some (.cells #[.int .i64 (n : Int)] 3 (0, 0))

theorem Cnt.ne {w : World} {g s n : Nat} {d : Array Int} (h : Cnt w s n) (hd : RowI w g d) : g ≠ s := by
  rintro rfl
  obtain ⟨rest, hd⟩ := hd
  rw [h] at hd
  injection hd with hd
  injection hd with _ hd
  cases hd
theorem Cnt.cell {w : World} {s n : Nat} (h : Cnt w s n) : w.cell? ⟨s, 0, none⟩ = some (.int .i64 (n : Int)) := by
  unfold Cnt at h
  simp [World.cell?, h]
theorem Cnt.free {w : World} {s n : Nat} (h : Cnt w s n) : w.frozen? ⟨s, 0, none⟩ = false := by
  unfold Cnt at h
  simp [World.frozen?, h]
theorem Cnt.set {w : World} {s n m : Nat} (h : Cnt w s n) : Cnt (w.setCell ⟨s, 0, none⟩ (.int .i64 (m : Int))) s m := by
  have := heap_set_same (o := 0) (.int .i64 (m : Int)) h
  simpa [Cnt] using this

def OrdP (w : World) (s n : Nat) (a b : Nat) (e : Ending) (w' : World) : Prop :=
  ∃ x y m : Nat, e = .returned (.tuple #[.int .i64 (x : Int), .int .i64 (y : Int)]) ∧ (x = a ∧ y = b ∨ x = b ∧ y = a) ∧ m ≤ n + 1 ∧ Cnt w' s m ∧ Fr (· = s) w w'

set_option maxHeartbeats 400000 in
set_option maxRecDepth 100000 in
theorem order2_i (w : World) (g cap len : Nat) (d : Array Int) (a b s n : Nat) (hd : RowI w g d) (hlen : d.size = len) (ha : a < len) (hb : b < len) (hs : Cnt w s n) (hn : n ≤ 1000) :
    Calls Try.prog 86 #[.slice (some ⟨g, 0, none⟩) len cap, .int .i64 a, .int .i64 b, ptr s] w (OrdP w s n a b) := by
  have c0 := hd.cell (i := a) (by omega)
  have c1 := hd.cell (i := b) (by omega)
  have cs := hs.cell
  have fs := hs.free
  have hs' := Lib.hid hs
  generalize d[a]! = x0 at c0
  generalize d[b]! = x1 at c1
  have w0 : IntKind.i64.wrap ((n : Int) + 1) = (n : Int) + 1 := IntWalk.i64_in _ ⟨by omega, by omega⟩
  clear hd hlen hs
  by_cases hlt : x1 < x0
  · have hd0 : decide (x1 < x0) = true := by simp; omega
    go_enter Try.func86, Try.ntmps86
    go_wp2
    go_quiet ((go_at_call 75; first | exact Calls.quiet_of_same (less_i _ _ _) | exact less_q _ _ _ _ _))
    go_wp2
    go_ret2
    exact ⟨b, a, n + 1, rfl, .inr ⟨rfl, rfl⟩, Nat.le_refl _, Cnt.set hs'.out, ((Fr.refl (· = s) w).drewN _).setCell (p := ⟨s, 0, none⟩) (.inl rfl) _⟩
  · have hd0 : decide (x1 < x0) = false := by simp; omega
    go_enter Try.func86, Try.ntmps86
    go_wp2
    go_quiet ((go_at_call 75; first | exact Calls.quiet_of_same (less_i _ _ _) | exact less_q _ _ _ _ _))
    go_wp2
    go_ret2
    exact ⟨a, b, n, rfl, .inl ⟨rfl, rfl⟩, Nat.le_succ _, hs'.out, (Fr.refl (· = s) w).drewN _⟩

def MedP (w : World) (s n : Nat) (L : List Nat) (e : Ending) (w' : World) : Prop :=
  ∃ x m : Nat, e = .returned (.int .i64 (x : Int)) ∧ x ∈ L ∧ m ≤ n + 3 ∧ Cnt w' s m ∧ Fr (· = s) w w'

set_option maxHeartbeats 400000 in
set_option maxRecDepth 100000 in
theorem median_i (w : World) (g cap len : Nat) (d : Array Int) (a b c s n : Nat) (hd : RowI w g d) (hlen : d.size = len) (ha : a < len) (hb : b < len) (hc : c < len) (hs : Cnt w s n) (hn : n ≤ 100) :
    Calls Try.prog 84 #[.slice (some ⟨g, 0, none⟩) len cap, .int .i64 a, .int .i64 b, .int .i64 c, ptr s] w (MedP w s n [a, b, c]) := by
  have hgs := hs.ne hd
  have H1 := Lib.hid (order2_i w g cap len d a b s n hd hlen ha hb hs (by omega))
  have hd' := Lib.hid hd
  clear hd hs
  go_enter Try.func84, Try.ntmps84
  go_wp2_with fail
  refine H1.out.mono ?_
  rintro e w1 ⟨x, y, m, rfl, hxy, hm, hs1, hF1⟩
  have hd1 : RowI w1 g d := hd'.out.frame hF1 hgs
  have hxl : x < len := by omega
  have hyl : y < len := by omega
  have H2 := Lib.hid (order2_i w1 g cap len d y c s m hd1 hlen hyl hc hs1 (by omega))
  have hd1' := Lib.hid hd1
  replace hF1 := Lib.hid hF1
  clear hd1 hs1 H1 hd'
  go_wp2_with fail
  refine H2.out.mono ?_
  rintro e w2 ⟨y2, z2, m2, rfl, hyz, hm2, hs2, hF2⟩
  have hd2 : RowI w2 g d := hd1'.out.frame hF2 hgs
  have hyl2 : y2 < len := by omega
  have H3 := Lib.hid (order2_i w2 g cap len d x y2 s m2 hd2 hlen hxl hyl2 hs2 (by omega))
  replace hF2 := Lib.hid (hF1.out.trans hF2 fun _ _ h => h)
  clear hd2 hs2 H2 hd1'
  go_wp2_with fail
  refine H3.out.mono ?_
  rintro e w3 ⟨x3, y3, m3, rfl, hxy3, hm3, hs3, hF3⟩
  have hfin : Hid (MedP w s n [a, b, c] (.returned (.int .i64 (y3 : Int))) w3) := by
    refine ⟨y3, m3, rfl, ?_, by omega, hs3, hF2.out.trans hF3 fun _ _ h => h⟩
    simp
    omega
  clear hs3 hF3 H3 hF1 hF2
  go_wp2
  go_ret
  exact hfin.out

set_option maxHeartbeats 400000 in
set_option maxRecDepth 100000 in
theorem medadj_i (w : World) (g cap len : Nat) (d : Array Int) (a s n : Nat) (hd : RowI w g d) (hlen : d.size = len) (hsz : len ≤ 35184372088832) (ha0 : 0 < a) (ha : a + 1 < len) (hs : Cnt w s n) (hn : n ≤ 100) :
    Calls Try.prog 83 #[.slice (some ⟨g, 0, none⟩) len cap, .int .i64 a, ptr s] w (MedP w s n [a - 1, a, a + 1]) := by
  have H1 := Lib.hid (median_i w g cap len d (a - 1) a (a + 1) s n hd hlen (by omega) (by omega) ha hs hn)
  have e1 : ((a - 1 : Nat) : Int) = (a : Int) - 1 := by omega
  have e2 : ((a + 1 : Nat) : Int) = (a : Int) + 1 := by omega
  rw [e1, e2] at H1
  clear hd hs e1 e2
  go_enter Try.func83, Try.ntmps83
  go_wp2_with fail
  refine H1.out.mono ?_
  rintro e w1 ⟨x, m, rfl, h1, h2, h3, h4⟩
  have hfin : Hid (MedP w s n [a - 1, a, a + 1] (.returned (.int .i64 (x : Int))) w1) := ⟨x, m, rfl, h1, h2, h3, h4⟩
  clear h1 h2 h3 h4 H1
  go_wp2
  go_ret
  exact hfin.out

/-- A pivot of the part, and a hint. -/
def PivP (w : World) (a b : Nat) (e : Ending) (w' : World) : Prop :=
  ∃ x h : Nat, e = .returned (.tuple #[.int .i64 (x : Int), .int .i64 (h : Int)]) ∧ a ≤ x ∧ x < b ∧ h ≤ 2 ∧ Fr Nob w w'

theorem fr_new {w w' : World} {o : Obj} {s : Nat} (h : Fr (· = s) (w.alloc o) w') (hs : s = w.heap.size) : Fr Nob w w' :=
  ((Fr.refl Nob w).alloc o).trans h fun k hk e => by subst e; omega

set_option maxHeartbeats 1000000 in
set_option maxRecDepth 100000 in
theorem pivot_i (w : World) (g cap len : Nat) (d : Array Int) (a b : Nat) (hd : RowI w g d) (hlen : d.size = len) (hsz : len ≤ 35184372088832) (hab : a + 12 < b) (hb : b ≤ len) :
    Calls Try.prog 72 #[.slice (some ⟨g, 0, none⟩) len cap, .int .i64 a, .int .i64 b] w (PivP w a b) := by
  obtain ⟨l, hl⟩ : ∃ l, l = b - a := ⟨_, rfl⟩
  obtain ⟨q, hq⟩ : ∃ q, q = l / 4 := ⟨_, rfl⟩
  obtain ⟨i, hi⟩ : ∃ i, i = a + q := ⟨_, rfl⟩
  obtain ⟨j, hj⟩ : ∃ j, j = a + q * 2 := ⟨_, rfl⟩
  obtain ⟨k, hk⟩ : ∃ k, k = a + q * 3 := ⟨_, rfl⟩
  have hl8 : 12 < l := by omega
  have e0 : (b : Int) - (a : Int) = (l : Int) := by omega
  have w0 : IntKind.i64.wrap ((b : Int) - (a : Int)) = (l : Int) := by rw [IntWalk.i64_in _ ⟨by omega, by omega⟩]; omega
  have v0 : IntKind.i64.wrap (l : Int) = (l : Int) := IntWalk.i64_in _ ⟨by omega, by omega⟩
  have eq : (l : Int).tdiv 4 = (q : Int) := by rw [hq]; rfl
  have e1 : (a : Int) + (q : Int) = (i : Int) := by omega
  have e2 : (a : Int) + (q : Int) * 2 = (j : Int) := by omega
  have e3 : (a : Int) + (q : Int) * 3 = (k : Int) := by omega
  have hi0 : a < i ∧ i + 1 < b := by omega
  have hj0 : a < j ∧ j + 1 < b := by omega
  have hk0 : a < k ∧ k + 1 < b := by omega
  obtain ⟨s, hs⟩ : ∃ s, s = w.heap.size := ⟨_, rfl⟩
  obtain ⟨w1, hw1⟩ : ∃ w1, w1 = w.alloc (.cells #[.int .i64 0] 3) := ⟨_, rfl⟩
  have hs1 : Cnt w1 s 0 := by rw [hw1, hs]; exact heap_alloc_eq w _
  have hF1 : Fr Nob w w1 := by rw [hw1]; exact (Fr.refl Nob w).alloc _
  have hd1 : RowI w1 g d := hd.frame hF1 fun h => h
  have hFs : Hid (∀ w2, Fr (· = s) w1 w2 → Fr Nob w w2) := by
    intro w2 h
    subst hw1
    exact fr_new h hs
  have hd1' := Lib.hid hd1
  have hs' := Lib.hid hs
  have hw1' := Lib.hid hw1
  clear hl hq hi hj hk hd hs hw1 hF1
  go_enter Try.func72, Try.ntmps72
  go_upto_if 34 with fail
  rw [← hs'.out, ← hw1'.out]
  have hil : i < len ∧ j < len ∧ k < len := by omega
  go_cut [10, 11, 12] (fun vi vj vk wr => ∃ i2 j2 k2 n : Nat, vi = .int .i64 i2 ∧ vj = .int .i64 j2 ∧ vk = .int .i64 k2 ∧ a ≤ i2 ∧ i2 < b ∧ a ≤ j2 ∧ j2 < b ∧ a ≤ k2 ∧ k2 < b ∧ n ≤ 9 ∧ Cnt wr s n ∧ Hid (Fr (· = s) w1 wr))
  case first =>
    by_cases h50 : 50 ≤ l
    · have hd0 : decide (50 ≤ (l : Int)) = true := by simp; omega
      have hd0' : (50 : Int) ≤ (l : Int) := by omega
      have hgs := hs1.ne hd1
      have H1 := Lib.hid (medadj_i w1 g cap len d i s 0 hd1 hlen hsz (by omega) (by omega) hs1 (by omega))
      clear hd1 hs1
      go_wp2_with fail
      refine H1.out.mono ?_
      rintro e w2 ⟨i2, n2, rfl, hi2, hn2, hs2, hF2⟩
      have hd2 : RowI w2 g d := hd1'.out.frame hF2 hgs
      simp only [List.mem_cons, List.not_mem_nil, or_false] at hi2
      have hi3 : a ≤ i2 ∧ i2 < b := by omega
      have H2 := Lib.hid (medadj_i w2 g cap len d j s n2 hd2 hlen hsz (by omega) (by omega) hs2 (by omega))
      replace hF2 := Lib.hid hF2
      clear hd2 hs2 H1 hi2
      go_wp2_with fail
      refine H2.out.mono ?_
      rintro e w3 ⟨j2, n3, rfl, hj2, hn3, hs3, hF3⟩
      replace hF3 := hF2.out.trans hF3 fun _ _ h => h
      have hd3 : RowI w3 g d := hd1'.out.frame hF3 hgs
      simp only [List.mem_cons, List.not_mem_nil, or_false] at hj2
      have hj3 : a ≤ j2 ∧ j2 < b := by omega
      have H3 := Lib.hid (medadj_i w3 g cap len d k s n3 hd3 hlen hsz (by omega) (by omega) hs3 (by omega))
      replace hF3 := Lib.hid hF3
      clear hd3 hs3 H2 hj2 hF2
      go_wp2_with fail
      refine H3.out.mono ?_
      rintro e w4 ⟨k2, n4, rfl, hk2, hn4, hs4, hF4⟩
      replace hF4 := Lib.hid (hF3.out.trans hF4 fun _ _ h => h)
      simp only [List.mem_cons, List.not_mem_nil, or_false] at hk2
      have hk3 : a ≤ k2 ∧ k2 < b := by omega
      replace hs4 := Lib.hid hs4
      clear hk2 H3 hF3
      go_wp2
      go_meet
      case rel => exact ⟨i2, j2, k2, n4, rfl, rfl, rfl, hi3.1, hi3.2, hj3.1, hj3.2, hk3.1, hk3.2, by omega, hs4.out, hF4⟩
    · have hd0 : decide (50 ≤ (l : Int)) = false := by simp; omega
      have hd0' : ¬ (50 : Int) ≤ (l : Int) := by omega
      go_wp2
      go_meet
      case rel => exact ⟨i, j, k, 0, rfl, rfl, rfl, by omega, by omega, by omega, by omega, by omega, by omega, by omega, hs1, Fr.refl _ _⟩
  case rest =>
    obtain ⟨i2, j2, k2, n, rfl, rfl, rfl, h1, h2, h3, h4, h5, h6, hn, hs2, hF2⟩ := hcut
    have hgs := hs1.ne hd1
    have hd2 : RowI wc g d := hd1.frame hF2.out hgs
    have H1 := Lib.hid (median_i wc g cap len d i2 j2 k2 s n hd2 hlen (by omega) (by omega) (by omega) hs2 (by omega))
    clear hd2 hs2 hs1 hd1
    go_wp2_with fail
    refine H1.out.mono ?_
    rintro e w3 ⟨x, m, rfl, hx, hm, hs3, hF3⟩
    simp only [List.mem_cons, List.not_mem_nil, or_false] at hx
    have hx3 : a ≤ x ∧ x < b := by omega
    have cs := hs3.cell
    have hF4 := Lib.hid (hFs.out _ (hF2.out.trans hF3 fun _ _ h => h))
    clear hx H1 hF2 hF3 hs3
    go_wp2
    all_goals go_ret2
    · exact ⟨x, 1, rfl, hx3.1, hx3.2, by omega, hF4.out⟩
    · exact ⟨x, 2, rfl, hx3.1, hx3.2, by omega, hF4.out⟩
    · exact ⟨x, 0, rfl, hx3.1, hx3.2, by omega, hF4.out⟩
end Go.Proofs.Ytioflglfnalcaaa

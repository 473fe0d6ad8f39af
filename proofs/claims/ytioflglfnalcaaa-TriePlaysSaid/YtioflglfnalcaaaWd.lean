/- The walks of SameRunes and runes. -/
import Derived.Test.YtioflglfnalcaaaWc
import Derived.Laws.IdiomStrings
namespace Go.Proofs.Ytioflglfnalcaaa
open Go.RowKit

/-- What a test comes to that only reads. -/
def BoolPost (w : World) (b : Bool) (e : Ending) (w' : World) : Prop := e = .returned (.bool b) ∧ ∃ n, w' = w.drewN n

theorem eq_of_take {zs ys : List Int} (hl : zs.length = ys.length) (h : zs.take zs.length = ys.take zs.length) : zs = ys := by
  rw [List.take_length, hl, List.take_length] at h; exact h
theorem ne_of_getD {zs ys : List Int} {k : Nat} (h : zs.getD k 0 ≠ ys.getD k 0) : zs ≠ ys := fun e => h (by rw [e])

set_option maxHeartbeats 400000 in
set_option maxRecDepth 100000 in
theorem same_runes (w : World) (A B : Option Addr) (ca cb : Nat) (zs ys : List Int) (hlen : zs.length ≤ 140737488351232) (ha : RdI w A zs) (hb : RdI w B ys) :
    Calls Try.prog 17 #[.slice A zs.length ca, .slice B ys.length cb] w (BoolPost w (decide (zs = ys))) := by
  by_cases hne : zs.length = ys.length
  · have hb1 : ((zs.length : Int) != (ys.length : Int)) = false := by rw [hne]; simp
    have hl0 := Lib.hid hne
    have Ha := Lib.hid ha
    have Hb := Lib.hid hb
    clear hne ha hb
    go_enter Try.func17, Try.ntmps17
    go_wp2
    go_loopw [5] (fun i wr => ∃ k n : Nat, k ≤ zs.length ∧ i = .int .i64 k ∧ Hid (zs.take k = ys.take k) ∧ wr = w.drewN n) (fun i _ => zs.length - (intOf i).toNat)
    case atStart => exact ⟨0, 0, by omega, rfl, by simp [Hid], rfl⟩
    case round =>
      obtain ⟨k, n, hk, rfl, htk, rfl⟩ := hrel
      by_cases hlt : k < zs.length
      · have hlt2 : k < ys.length := by have := hl0.out; omega
        obtain ⟨ab, off, rfl, hc⟩ := Ha.out k hlt
        obtain ⟨bb, off2, rfl, hd⟩ := Hb.out k hlt2
        have ht := take_getD hlt
        have hu := take_getD hlt2
        by_cases hx : zs.getD k 0 = ys.getD k 0
        · have H1 : Hid (zs.take (k + 1) = ys.take (k + 1)) := by rw [ht, hu, htk.out, hx]; exact rfl
          rw [hx] at hc
          have hbb : (ys.getD k 0 != ys.getD k 0) = false := by simp
          generalize ys.getD k 0 = r at hc hd hbb
          clear ht hu hx
          have g0 : (0 : Int) ≤ (k : Int) := by omega
          have g1 : (k : Int) < (zs.length : Int) := by omega
          have g2 : (k : Int) < (ys.length : Int) := by omega
          go_wp2
          go_quiet (fail)
          go_wp2
          go_roundw
          case rel => exact ⟨k + 1, _, by omega, by go_num, H1, rfl⟩
          case measure => simp [intOf]; omega
        · have H1 : Hid (decide (zs = ys) = false) := by have := ne_of_getD hx; simp [Hid, this]
          have hbb : (zs.getD k 0 != ys.getD k 0) = true := by simpa using hx
          generalize zs.getD k 0 = r at hc hbb
          generalize ys.getD k 0 = r2 at hd hbb
          clear ht hu hx
          have g0 : (0 : Int) ≤ (k : Int) := by omega
          have g1 : (k : Int) < (zs.length : Int) := by omega
          have g2 : (k : Int) < (ys.length : Int) := by omega
          go_wp2
          go_quiet (fail)
          go_wp2
          go_ret
          exact ⟨by rw [H1.out]; rfl, _, World.drewN_drewN _ _ _⟩
      · have e : k = zs.length := by omega
        subst e
        have H1 : Hid (decide (zs = ys) = true) := by have := eq_of_take hl0.out htk.out; simp [Hid, this]
        go_wp2
        go_ret
        exact ⟨by rw [H1.out]; rfl, _, rfl⟩
  · have hb1 : ((zs.length : Int) != (ys.length : Int)) = true := by simp; omega
    have H1 : Hid (decide (zs = ys) = false) := by
      have : zs ≠ ys := fun e => hne (by rw [e])
      simp [Hid, this]
    clear hne
    go_enter Try.func17, Try.ntmps17
    go_wp2
    go_ret
    exact ⟨by rw [H1.out]; rfl, 0, rfl⟩

/-- A new list of int32. -/
def NewI (w : World) (zs : List Int) (e : Ending) (w' : World) : Prop :=
  ∃ A cap, e = .returned (.slice (some A) zs.length cap) ∧ RdI w' (some A) zs ∧ w.heap.size ≤ A.block ∧ A.block < w'.heap.size ∧ Fr Nob w w'

theorem rdI_of_cells {w : World} {b : Nat} {zs : List Int} {rest : Array Value} {t : TypeId} {f : Nat × Nat} (h : w.heap[b]? = some (.cells ((zs.map (Value.int .i32)).toArray ++ rest) t f)) : RdI w (some ⟨b, 0, none⟩) zs := fun k hk =>
  ⟨b, 0, rfl, by simp [World.cell?, h, hk, Array.getElem?_append, List.getD]⟩

theorem runes_any (w : World) (s : ByteArray) (zs : List Int) (hs : Conv.runesFrom s s.size 0 #[] = (zs.map (Value.int .i32)).toArray) (hlen : zs.length ≤ 70368744177664) :
    Calls Try.prog 31 #[.string s] w (NewI w zs) := by
  have hsz : (Conv.runesFrom s s.size 0 #[]).size = zs.length := by rw [hs]; simp
  have h := run_runes_of_string (P := Try.prog) w 9 36 21 s Try.underlying9 Try.underlying36 Try.underlying21 (by rw [hsz]; exact hlen)
  rw [hsz, hs] at h
  have h0 := heap_alloc_eq w.drew (.cells ((zs.map (Value.int .i32)).toArray ++ Array.replicate (grownCap w zs.length 0 21 - zs.length) (.int .i32 0)) 21)
  have H2 : Hid (NewI w zs (.returned (.slice (some ⟨w.heap.size, 0, none⟩) zs.length (grownCap w zs.length 0 21))) (w.drew.alloc (.cells ((zs.map (Value.int .i32)).toArray ++ Array.replicate (grownCap w zs.length 0 21 - zs.length) (.int .i32 0)) 21))) := 
    ⟨⟨w.heap.size, 0, none⟩, _, rfl, rdI_of_cells h0, Nat.le_refl _, by simp, (Fr.refl _ _).drew.alloc _⟩
  clear h0 hs hsz
  generalize (w.drew.alloc (.cells ((zs.map (Value.int .i32)).toArray ++ Array.replicate (grownCap w zs.length 0 21 - zs.length) (.int .i32 0)) 21)) = W at h H2
  generalize grownCap w zs.length 0 21 = cap at h H2
  go_enter Try.func31, Try.ntmps31
  go_wp2
  go_ret
  exact H2
end Go.Proofs.Ytioflglfnalcaaa

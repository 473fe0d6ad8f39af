/- Base words: frames with a footprint, maps keyed by int32 as lists of entries. No program in sight. -/
import Derived.WalkKit
import Derived.Lib.Hide
import Derived.Deep.Draws
namespace Go.Proofs.Ytioflglfnalcaaa
open Go.RowKit

/-- w' is w but for the blocks of S and for new blocks. -/
structure Fr (S : Nat → Prop) (w w' : World) : Prop where
  os : w'.os = w.os
  tape : w'.tape = w.tape
  output : w'.output = w.output
  size : w.heap.size ≤ w'.heap.size
  block : ∀ k, k < w.heap.size → ¬ S k → w'.heap[k]? = w.heap[k]?

def Nob : Nat → Prop := fun _ => False

theorem Fr.refl (S : Nat → Prop) (w : World) : Fr S w w := ⟨rfl, rfl, rfl, Nat.le_refl _, fun _ _ _ => rfl⟩
theorem Fr.trans {S S' : Nat → Prop} {a b c : World} (h : Fr S a b) (k : Fr S' b c) (hs : ∀ i, i < a.heap.size → S' i → S i) : Fr S a c :=
  ⟨k.os.trans h.os, k.tape.trans h.tape, k.output.trans h.output, Nat.le_trans h.size k.size,
   fun i hi hn => (k.block i (Nat.lt_of_lt_of_le hi h.size) (fun e => hn (hs i hi e))).trans (h.block i hi hn)⟩
theorem Fr.mono {S S' : Nat → Prop} {a b : World} (h : Fr S a b) (hs : ∀ i, i < a.heap.size → S i → S' i) : Fr S' a b :=
  ⟨h.os, h.tape, h.output, h.size, fun i hi hn => h.block i hi (fun e => hn (hs i hi e))⟩
theorem Fr.drew {S : Nat → Prop} {a w : World} (h : Fr S a w) : Fr S a w.drew := ⟨h.os, h.tape, h.output, h.size, h.block⟩
theorem Fr.drewN {S : Nat → Prop} {a w : World} (h : Fr S a w) (n : Nat) : Fr S a (w.drewN n) := ⟨h.os, h.tape, h.output, h.size, h.block⟩
theorem Fr.alloc {S : Nat → Prop} {a w : World} (h : Fr S a w) (o : Obj) : Fr S a (w.alloc o) :=
  ⟨h.os, h.tape, h.output, Nat.le_trans h.size (by simp), fun i hi hn => (Below.heap_alloc w o i (Nat.lt_of_lt_of_le hi h.size)).trans (h.block i hi hn)⟩
theorem Fr.setCell {S : Nat → Prop} {a w : World} (h : Fr S a w) {p : Addr} (hp : S p.block ∨ a.heap.size ≤ p.block) (u : Value) : Fr S a (w.setCell p u) :=
  ⟨h.os, h.tape, h.output, by simpa [World.setCell] using h.size, fun i hi hn => (Below.heap_setCell w p u i (by
    rintro rfl
    rcases hp with hp | hp
    · exact hn hp
    · omega)).trans (h.block i hi hn)⟩
/-- Block m is now o. -/
def putMap (w : World) (m : Nat) (o : Obj) : World := { w with heap := w.heap.setIfInBounds m o }
theorem putMap_size (w : World) (m : Nat) (o : Obj) : (putMap w m o).heap.size = w.heap.size := by simp [putMap]
theorem putMap_ne {w : World} {m k : Nat} (o : Obj) (h : m ≠ k) : (putMap w m o).heap[k]? = w.heap[k]? := by
  show (w.heap.setIfInBounds m o)[k]? = _
  rw [Array.getElem?_setIfInBounds_ne h]
theorem putMap_eq {w : World} {m : Nat} (o : Obj) (h : m < w.heap.size) : (putMap w m o).heap[m]? = some o := by
  show (w.heap.setIfInBounds m o)[m]? = _
  rw [Array.getElem?_setIfInBounds_self_of_lt h]
theorem Fr.putObj {S : Nat → Prop} {a w : World} (h : Fr S a w) {m : Nat} (hm : S m ∨ a.heap.size ≤ m) (o : Obj) : Fr S a (putMap w m o) :=
  ⟨h.os, h.tape, h.output, by simpa [putMap] using h.size, fun i hi hn => by
    have hne : m ≠ i := by
      rintro rfl
      rcases hm with hm | hm
      · exact hn hm
      · omega
    show (w.heap.setIfInBounds m o)[i]? = _
    rw [Array.getElem?_setIfInBounds_ne hne]
    exact h.block i hi hn⟩
theorem Fr.grown {S : Nat → Prop} {a w w' : World} {row : Option Nat} (h : Fr S a w) (hg : w.grownBy w' row) (hr : ∀ k, row = some k → S k ∨ a.heap.size ≤ k) : Fr S a w' :=
  ⟨hg.os.trans h.os, hg.tape.trans h.tape, hg.output.trans h.output, Nat.le_trans h.size hg.size, fun i hi hn =>
    (hg.block i (Nat.lt_of_lt_of_le hi h.size) (fun e => by
      rcases hr i e.symm with h1 | h1
      · exact hn h1
      · omega)).trans (h.block i hi hn)⟩
theorem Fr.below {S : Nat → Prop} {w w' : World} (h : Fr S w w') {B : Nat} (hB : B ≤ w.heap.size) (hs : ∀ k, S k → B ≤ k) : Below B w w' :=
  ⟨h.os, h.tape, h.output, h.size, fun k hk => h.block k (Nat.lt_of_lt_of_le hk hB) (fun e => by have := hs k e; omega)⟩
theorem Fr.of_below {w w' : World} (h : Below w.heap.size w w') (S : Nat → Prop) : Fr S w w' := ⟨h.os, h.tape, h.output, h.size, fun k hk _ => h.block k hk⟩
theorem Fr.heap {S : Nat → Prop} {w w' : World} (h : Fr S w w') {k : Nat} {o : Obj} (ho : w.heap[k]? = some o) (hn : ¬ S k) : w'.heap[k]? = some o := by
  have hk : k < w.heap.size := by
    rcases Nat.lt_or_ge k w.heap.size with h1 | h1
    · exact h1
    · rw [Array.getElem?_eq_none h1] at ho; cases ho
  rw [h.block k hk hn]; exact ho
theorem Fr.cell {S : Nat → Prop} {w w' : World} (h : Fr S w w') {p : Addr} {v : Value} (hc : w.cell? p = some v) (hn : ¬ S p.block) : w'.cell? p = some v := by
  rw [World.cell?_of_block (h.block _ (World.block_lt_of_cell? w p hc) hn)]; exact hc

theorem lt_of_heap {w : World} {k : Nat} {o : Obj} (ho : w.heap[k]? = some o) : k < w.heap.size := by
  rcases Nat.lt_or_ge k w.heap.size with h1 | h1
  · exact h1
  · rw [Array.getElem?_eq_none h1] at ho; cases ho

/-- The entries of a map, born one behind the other. -/
def ents (b0 : Nat) : List (Int × Value) → List MapEntry
  | [] => []
  | (k, v) :: l => { key := .int .i32 k, val := v, born := b0 } :: ents (b0 + 1) l

theorem ents_length (l : List (Int × Value)) : ∀ b, (ents b l).length = l.length := by
  induction l with
  | nil => intro b; rfl
  | cons x l ih => intro b; obtain ⟨k, v⟩ := x; simp [ents, ih]
theorem ents_append (l : List (Int × Value)) (k : Int) (v : Value) : ∀ b, ents b (l ++ [(k, v)]) = ents b l ++ [{ key := .int .i32 k, val := v, born := b + l.length }] := by
  induction l with
  | nil => intro b; rfl
  | cons x l ih => intro b; obtain ⟨k', v'⟩ := x; simp [ents, ih]; omega

theorem findNow_ents (r : Int) (l : List (Int × Value)) : ∀ b i, ∃ j, Instr.findNow (.int .i32) (.int .i32 r) (ents b l) i = some ((l.lookup r).map fun v => (j, v)) := by
  induction l with
  | nil => intro b i; exact ⟨0, rfl⟩
  | cons x l ih =>
    intro b i
    obtain ⟨k, v⟩ := x
    by_cases h : r = k
    · subst h; exact ⟨i, by simp [ents, Instr.findNow, Instr.sameNow, List.lookup]⟩
    · obtain ⟨j, hj⟩ := ih (b + 1) (i + 1)
      have hb : (r == k) = false := by simpa using h
      exact ⟨j, by simp [ents, Instr.findNow, Instr.sameNow, List.lookup, hb, hj]⟩

section
variable {P : Program} {T K E : TypeId} {z : Value} {w : World}
theorem run_checkKey (hK : P.underlying K = some (.int .i32)) (e : Bool) (d : Nat) (r : Int) : (Instr.checkKey e (d + 1) K (.int .i32 r)).run P w = .ok () w := by
  simp [Instr.checkKey, run_underlying hK]

theorem run_lookup_nil (hT : P.underlying T = some (.map K E)) (hK : P.underlying K = some (.int .i32)) (hz : (zeroValue E).run P w = .ok z w) (r : Int) :
    (Instr.lookup T (.map none) (.int .i32 r) false).run P w = .ok z w := by
  simp [Instr.lookup, run_underlying hT, run_checkKey hK, Instr.findKey, run_underlying hK, Instr.findNow, hz]

theorem run_lookup_ents (hT : P.underlying T = some (.map K E)) (hK : P.underlying K = some (.int .i32)) (hz : (zeroValue E).run P w = .ok z w) (r : Int) {m c : Nat} {l : List (Int × Value)} {b : Nat}
    (hm : w.heap[m]? = some (.map (ents b l).toArray c)) :
    (Instr.lookup T (.map (some m)) (.int .i32 r) false).run P w = .ok ((l.lookup r).getD z) w := by
  obtain ⟨j, hj⟩ := findNow_ents r l b 0
  have hg : ∀ {α : Type} (f : Obj → Sem α), (getObj m >>= f).run P w = (f (.map (ents b l).toArray c)).run P w := by
    intro α f; rw [Sem.run_bind]; show (Sem.run P (Sem.getObj m Sem.pure) w).andThen _ = _; simp only [Sem.run, hm]; rfl
  cases hl : l.lookup r with
  | none => simp [Instr.lookup, run_underlying hT, run_checkKey hK, Instr.findKey, run_underlying hK, hj, hl, hz, hg]
  | some v => simp [Instr.lookup, run_underlying hT, run_checkKey hK, Instr.findKey, run_underlying hK, hj, hl, hg]

theorem run_mapUpdate_new (hT : P.underlying T = some (.map K E)) (hK : P.underlying K = some (.int .i32)) (r : Int) (v : Value) {m c : Nat} {l : List (Int × Value)} {b : Nat}
    (hm : w.heap[m]? = some (.map (ents b l).toArray c)) (hl : l.lookup r = none) :
    (Instr.mapUpdate T (.map (some m)) (.int .i32 r) v).run P w = .ok () (putMap w m (.map (ents b l ++ [({ key := .int .i32 r, val := v, born := c } : MapEntry)]).toArray (c + 1))) := by
  obtain ⟨j, hj⟩ := findNow_ents r l b 0
  have hg : ∀ {α : Type} (f : Obj → Sem α), (getObj m >>= f).run P w = (f (.map (ents b l).toArray c)).run P w := by
    intro α f; rw [Sem.run_bind]; show (Sem.run P (Sem.getObj m Sem.pure) w).andThen _ = _; simp only [Sem.run, hm]; rfl
  simp [Instr.mapUpdate, run_underlying hT, run_checkKey hK, Instr.findKey, run_underlying hK, hj, hl, hg, setObj, Sem.run, hm, putMap]
end
end Go.Proofs.Ytioflglfnalcaaa

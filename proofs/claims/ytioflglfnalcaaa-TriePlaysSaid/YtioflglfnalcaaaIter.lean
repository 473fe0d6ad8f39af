/- A map keyed by int32 is gone over: the iterator's steps, by the entries that have come. No program in sight. -/
import Derived.Test.YtioflglfnalcaaaBase
import Derived.RangeFuncSeq
namespace Go.Proofs.Ytioflglfnalcaaa
open Go.RowKit

theorem nodup_sub_perm {α : Type} [BEq α] [LawfulBEq α] : ∀ (l l' : List α), l.Nodup → (∀ x ∈ l, x ∈ l') → ∃ r, l'.Perm (l ++ r)
  | [], l', _, _ => ⟨l', by simp⟩
  | x :: l, l', hn, hs => by
    have hx : x ∈ l' := hs x (by simp)
    obtain ⟨h1, h2⟩ := List.nodup_cons.1 hn
    obtain ⟨r, hr⟩ := nodup_sub_perm l (l'.erase x) h2 (fun y hy => (List.mem_erase_of_ne (by rintro rfl; exact h1 hy)).2 (hs y (by simp [hy])))
    exact ⟨r, (List.perm_cons_erase hx).trans (by simpa using hr.cons x)⟩
theorem nodup_le {α : Type} [BEq α] [LawfulBEq α] {l l' : List α} (hn : l.Nodup) (hs : ∀ x ∈ l, x ∈ l') : l.length ≤ l'.length := by
  obtain ⟨r, hr⟩ := nodup_sub_perm l l' hn hs
  have := hr.length_eq
  simp at this
  omega
theorem nodup_perm {α : Type} [BEq α] [LawfulBEq α] {l l' : List α} (hn : l.Nodup) (hs : ∀ x ∈ l, x ∈ l') (he : l.length = l'.length) : l.Perm l' := by
  obtain ⟨r, hr⟩ := nodup_sub_perm l l' hn hs
  have := hr.length_eq
  have h0 : r = [] := by
    cases r with
    | nil => rfl
    | cons y r => simp at this; omega
  subst h0
  simpa using hr.symm

/-- The iterator in block r over the map in block m, whose entries are l; the places of those that have come are in seen. -/
structure Iter (w : World) (r m : Nat) (l : List (Int × Value)) (seen : List Nat) : Prop where
  map : w.heap[m]? = some (.map (ents 0 l).toArray l.length)
  iter : w.heap[r]? = some (.mapIter (some m) l.length seen.toArray l.length)
  ne : r ≠ m
  nodup : seen.Nodup
  lt : ∀ i ∈ seen, i < l.length

theorem ents_get (l : List (Int × Value)) : ∀ (b i : Nat) (h : i < l.length), (ents b l)[i]? = some { key := .int .i32 (l[i]).1, val := (l[i]).2, born := b + i } := by
  induction l with
  | nil => intro b i h; simp at h
  | cons x l ih =>
    intro b i h
    obtain ⟨k, v⟩ := x
    cases i with
    | zero => simp [ents]
    | succ i =>
      have := ih (b + 1) i (by simpa using h)
      simp only [ents, List.getElem?_cons_succ, List.getElem_cons_succ, this]
      congr 2; omega

theorem mem_ents {l : List (Int × Value)} {b : Nat} {e : MapEntry} (h : e ∈ ents b l) : ∃ i, ∃ hi : i < l.length, e = { key := .int .i32 (l[i]).1, val := (l[i]).2, born := b + i } := by
  obtain ⟨i, hi, he⟩ := List.getElem_of_mem h
  rw [ents_length] at hi
  have := ents_get l b i hi
  rw [List.getElem?_eq_getElem (by rw [ents_length]; exact hi)] at this
  exact ⟨i, hi, by rw [← he]; injection this⟩

theorem run_range_ents {P : Program} {T K E : TypeId} {w : World} {m : Nat} {l : List (Int × Value)} (hT : P.underlying T = some (.map K E)) (hm : w.heap[m]? = some (.map (ents 0 l).toArray l.length)) :
    (Instr.range T (.map (some m))).run P w = .ok (.pointer (some ⟨w.heap.size, 0, none⟩)) (w.alloc (.mapIter (some m) l.length #[] l.length)) :=
  run_range_map (P := P) w T K E m _ _ hT hm

theorem filter_old {l : List (Int × Value)} (seen : Array Nat) :
    ((ents 0 l).toArray.filter (fun e => !seen.contains e.born)).filter (fun e => e.born < l.length) = (ents 0 l).toArray.filter (fun e => !seen.contains e.born) := by
  rw [Array.filter_eq_self]
  intro e he
  rw [Array.mem_filter] at he
  obtain ⟨i, hi, rfl⟩ := mem_ents (List.mem_toArray.1 he.1)
  simpa using hi
theorem filter_new {l : List (Int × Value)} (seen : Array Nat) :
    ((ents 0 l).toArray.filter (fun e => !seen.contains e.born)).filter (fun e => e.born ≥ l.length) = #[] := by
  rw [Array.filter_eq_empty_iff]
  intro e he
  rw [Array.mem_filter] at he
  obtain ⟨i, hi, rfl⟩ := mem_ents (List.mem_toArray.1 he.1)
  simp; omega

theorem run_next_ents {P : Program} {w : World} {r m : Nat} {l : List (Int × Value)} {seen : List Nat} (ty : TypeId) (h : Iter w r m l seen) :
    (seen.length = l.length ∧ (Instr.next (.pointer (some ⟨r, 0, none⟩)) false ty).run P w = .ok (.tuple #[.bool false]) w) ∨
    (∃ i, ∃ hi : i < l.length, i ∉ seen ∧ ∃ w2, (Instr.next (.pointer (some ⟨r, 0, none⟩)) false ty).run P w = .ok (.tuple #[.bool true, .int .i32 (l[i]).1, (l[i]).2]) w2 ∧
      w.grownBy w2 (some r) ∧ Iter w2 r m l (seen ++ [i])) := by
  have hg : ∀ {α : Type} (f : Obj → Sem α), (getObj m >>= f).run P w = (f (.map (ents 0 l).toArray l.length)).run P w := by
    intro α f; rw [Sem.run_bind]; show (Sem.run P (Sem.getObj m Sem.pure) w).andThen _ = _; simp only [Sem.run, h.map]; rfl
  have hg2 : ∀ {α : Type} (f : Obj → Sem α), (getObj r >>= f).run P w = (f (.mapIter (some m) l.length seen.toArray l.length)).run P w := by
    intro α f; rw [Sem.run_bind]; show (Sem.run P (Sem.getObj r Sem.pure) w).andThen _ = _; simp only [Sem.run, h.iter]; rfl
  have htest : (!seen.toArray.isEmpty && !(ents 0 l).toArray.isEmpty && (ents 0 l).toArray.all (·.born ≥ l.length)) = false := by
    cases l with
    | nil => simp [ents]
    | cons x l => obtain ⟨k, v⟩ := x; simp [ents]
  have hleft : ∀ e ∈ ((ents 0 l).toArray.filter fun e => !seen.toArray.contains e.born), ∃ i, ∃ hi : i < l.length, i ∉ seen ∧ e = { key := .int .i32 (l[i]).1, val := (l[i]).2, born := i } := by
    intro e he
    rw [Array.mem_filter] at he
    obtain ⟨i, hi, rfl⟩ := mem_ents (List.mem_toArray.1 he.1)
    refine ⟨i, hi, ?_, by simp⟩
    have := he.2
    simpa using this
  unfold Instr.next
  simp only [hg2, hg, htest, Bool.false_eq_true, if_false, filter_old, filter_new, Array.append_empty]
  generalize hL : (ents 0 l).toArray.filter (fun e => !seen.toArray.contains e.born) = L at hleft ⊢
  by_cases hemp : L = #[]
  · left
    constructor
    · have hall : ∀ i, i < l.length → i ∈ seen := by
        intro i hi
        have hf := Array.filter_eq_empty_iff.1 (hL.trans hemp)
        have := hf { key := .int .i32 (l[i]).1, val := (l[i]).2, born := 0 + i } (by
          rw [List.mem_toArray]; exact List.mem_of_getElem? (ents_get l 0 i hi))
        simpa using this
      have h1 : seen.length ≤ l.length := by
        have := nodup_le (l' := List.range l.length) h.nodup (fun i hi => List.mem_range.2 (h.lt i hi))
        simpa using this
      have h2 : l.length ≤ seen.length := by
        have := nodup_le (l' := seen) (List.nodup_range (n := l.length)) (fun i hi => hall i (List.mem_range.1 hi))
        simpa using this
      omega
    · subst hemp
      simp [choose, Sem.run, Question.forced]
  · right
    have h0 : 0 < L.size := by
      rcases Nat.eq_zero_or_pos L.size with e | e
      · exact absurd (Array.eq_empty_of_size_eq_zero e) hemp
      · exact e
    have hne : L.isEmpty = false := by simp [Array.isEmpty]; omega
    have hch : ∃ (j : Nat) (w1 : World), j < L.size ∧ (w1 = w ∨ w1 = w.drew) ∧ (choose (Question.mapNext L.size)).run P w = .ok j w1 := by
      by_cases hf : L.size ≤ 1
      · exact ⟨0, w, by omega, .inl rfl, by simp [choose, Sem.run, Question.forced, hf]⟩
      · exact ⟨_, w.drew, Nat.mod_lt _ h0, .inr rfl, by
          simp only [choose, Sem.run, Question.forced, decide_eq_true_eq, hf, if_false, Question.cut]
          rfl⟩
    obtain ⟨j, w1, hj, hw1, hrun⟩ := hch
    obtain ⟨i, hi, hns, he⟩ := hleft L[j] (Array.getElem_mem hj)
    have hheap : w1.heap = w.heap := by rcases hw1 with rfl | rfl <;> rfl
    have hrs : r < w1.heap.size := by rw [hheap]; exact lt_of_heap h.iter
    have hset : ∀ o : Obj, (setObj r o).run P w1 = .ok () (putMap w1 r o) := fun o => by
      simp only [setObj, Sem.run, hheap, h.iter]
      simp only [putMap, hheap]
    refine ⟨i, hi, hns, putMap w1 r (.mapIter (some m) l.length (seen ++ [i]).toArray l.length), ?_, ?_, ?_⟩
    · simp only [hne, Bool.false_eq_true, if_false, Array.empty_append, Array.size_map, Sem.run_bind, hrun, Result.andThen, Array.getElem?_map, Array.getElem?_eq_getElem hj, Option.map_some, hset, he]
      simp
    · refine ⟨by rcases hw1 with rfl | rfl <;> rfl, by rcases hw1 with rfl | rfl <;> rfl, by rcases hw1 with rfl | rfl <;> rfl, by rw [putMap_size, hheap]; exact Nat.le_refl _, fun k _ hk => ?_⟩
      rw [putMap_ne _ (fun e => hk (by rw [e])), hheap]
    · refine ⟨by rw [putMap_ne _ h.ne, hheap]; exact h.map, putMap_eq _ hrs, h.ne, ?_, ?_⟩
      · rw [List.nodup_append]
        exact ⟨h.nodup, by simp, by intro x hx y hy; simp at hy; subst hy; rintro rfl; exact hns hx⟩
      · intro x hx
        rcases List.mem_append.1 hx with hx | hx
        · exact h.lt x hx
        · simp at hx; subst hx; exact hi

theorem run_entry_ents {P : Program} {w : World} {r m i : Nat} {l : List (Int × Value)} {seen : List Nat} (h : Iter w r m l (seen ++ [i])) (hi : i < l.length) :
    (Instr.entry (.pointer (some ⟨r, 0, none⟩))).run P w = .ok (.tuple #[.int .i32 (l[i]).1, (l[i]).2]) w := by
  have hg : (getObj m).run P w = .ok (.map (ents 0 l).toArray l.length) w := by
    show (Sem.getObj m Sem.pure).run P w = _
    simp only [Sem.run, h.map]
  have hg2 : (getObj r).run P w = .ok (.mapIter (some m) l.length (seen ++ [i]).toArray l.length) w := by
    show (Sem.getObj r Sem.pure).run P w = _
    simp only [Sem.run, h.iter]
  have hb : (ents 0 l).find? (fun e => e.born == i) = some { key := .int .i32 (l[i]).1, val := (l[i]).2, born := i } := by
    have hgen : ∀ (l : List (Int × Value)) (b i : Nat) (hi : i < l.length), (ents b l).find? (fun e => e.born == b + i) = some { key := .int .i32 (l[i]).1, val := (l[i]).2, born := b + i } := by
      intro l
      induction l with
      | nil => intro b i hi; simp at hi
      | cons x l ih =>
        intro b i hi
        obtain ⟨k, v⟩ := x
        cases i with
        | zero => simp [ents]
        | succ i =>
          have h1 := ih (b + 1) i (by simpa using hi)
          have e1 : b + 1 + i = b + (i + 1) := by omega
          rw [e1] at h1
          simp [ents, h1]
    have := hgen l 0 i hi
    simpa using this
  simp [Instr.entry, hg, hg2, hb]

theorem Iter.walks {w w' : World} {r m : Nat} {l : List (Int × Value)} {seen : List Nat} (h : Iter w r m l seen) (hk : KeepsWalks w w') : Iter w' r m l seen :=
  ⟨hk.same m _ h.map rfl, hk.same r _ h.iter rfl, h.ne, h.nodup, h.lt⟩

theorem iter_new {w : World} {m : Nat} {l : List (Int × Value)} (hm : w.heap[m]? = some (.map (ents 0 l).toArray l.length)) : Iter (w.alloc (.mapIter (some m) l.length #[] l.length)) w.heap.size m l [] :=
  ⟨by rw [Below.heap_alloc _ _ _ (lt_of_heap hm)]; exact hm, by show (w.heap.push _)[w.heap.size]? = _; simp, by have := lt_of_heap hm; omega, by simp, by simp⟩

/-- How many entries have come. -/
def cameOf (w : World) (r : Nat) : Nat := match w.heap[r]? with | some (.mapIter _ _ s _) => s.size | _ => 0
theorem Iter.came {w : World} {r m : Nat} {l : List (Int × Value)} {seen : List Nat} (h : Iter w r m l seen) : cameOf w r = seen.length := by
  unfold cameOf; rw [h.iter]; simp

theorem seen_le {n : Nat} {seen : List Nat} (hn : seen.Nodup) (hl : ∀ i ∈ seen, i < n) : seen.length ≤ n := by
  have := nodup_le (l' := List.range n) hn (fun i hi => List.mem_range.2 (hl i hi))
  simpa using this
theorem seen_perm {n : Nat} {seen : List Nat} (hn : seen.Nodup) (hl : ∀ i ∈ seen, i < n) (he : seen.length = n) : seen.Perm (List.range n) :=
  nodup_perm hn (fun i hi => List.mem_range.2 (hl i hi)) (by simp [he])
end Go.Proofs.Ytioflglfnalcaaa

/- What Below lists, by what lies in the trie: sorted, all of it. No program in sight. -/
import Derived.Test.YtioflglfnalcaaaWj
namespace Go.Proofs.Ytioflglfnalcaaa

/-- Rows in order. -/
def lx : List Int → List Int → Prop
  | [], [] => False
  | [], _ :: _ => True
  | _ :: _, [] => False
  | a :: p, b :: q => a < b ∨ (a = b ∧ lx p q)

theorem lx_irrefl : ∀ p, ¬ lx p p
  | [], h => h
  | a :: p, h => by
    rcases h with h | ⟨_, h⟩
    · omega
    · exact lx_irrefl p h
theorem lx_trans : ∀ {p q r}, lx p q → lx q r → lx p r
  | [], [], _, h, _ => h.elim
  | [], _ :: _, [], _, h => h.elim
  | [], _ :: _, _ :: _, _, _ => trivial
  | _ :: _, [], _, h, _ => h.elim
  | _ :: _, _ :: _, [], _, h => h.elim
  | a :: p, b :: q, c :: r, h, k => by
    rcases h with h | ⟨rfl, h⟩
    · rcases k with k | ⟨rfl, k⟩
      · exact .inl (by omega)
      · exact .inl h
    · rcases k with k | ⟨rfl, k⟩
      · exact .inl k
      · exact .inr ⟨rfl, lx_trans h k⟩
theorem lx_append (r : Int) (y : List Int) : ∀ p, lx p (p ++ r :: y)
  | [] => trivial
  | _ :: p => .inr ⟨rfl, lx_append r y p⟩
theorem lx_branch {r s : Int} (h : r < s) (x y : List Int) : ∀ p, lx (p ++ r :: x) (p ++ s :: y)
  | [] => .inl h
  | _ :: p => .inr ⟨rfl, lx_branch h x y p⟩

/-- Two strictly sorted lists of the same members are one. -/
theorem sorted_unique {α : Type} {lt : α → α → Prop} (irr : ∀ a, ¬ lt a a) (tr : ∀ {a b c}, lt a b → lt b c → lt a c) : ∀ {l m : List α}, l.Pairwise lt → m.Pairwise lt → (∀ x, x ∈ l ↔ x ∈ m) → l = m
  | [], [], _, _, _ => rfl
  | [], b :: m, _, _, h => absurd ((h b).2 (by simp)) (by simp)
  | a :: l, [], _, _, h => absurd ((h a).1 (by simp)) (by simp)
  | a :: l, b :: m, hl, hm, h => by
    rw [List.pairwise_cons] at hl hm
    have hab : a = b := by
      have h1 := (h a).1 (by simp)
      have h2 := (h b).2 (by simp)
      rcases List.mem_cons.1 h1 with e | h1
      · exact e
      · rcases List.mem_cons.1 h2 with e | h2
        · exact e.symm
        · exact absurd (tr (hm.1 a h1) (hl.1 b h2)) (irr b)
    subst hab
    rw [sorted_unique irr tr hl.2 hm.2 fun x => ?_]
    have hx := h x
    simp only [List.mem_cons] at hx
    constructor
    · intro hx1
      rcases hx.1 (.inr hx1) with e | h2
      · subst e; exact absurd (hl.1 _ hx1) (irr _)
      · exact h2
    · intro hx1
      rcases hx.2 (.inr hx1) with e | h2
      · subst e; exact absurd (hm.1 _ hx1) (irr _)
      · exact h2

theorem srt_strict {l : List Int} (h : l.Nodup) : (srt l).Pairwise (· < ·) := by
  have h1 := List.pairwise_mergeSort (le := fun x y : Int => decide (x ≤ y)) (fun a b c h1 h2 => by simp only [decide_eq_true_eq] at *; omega) (fun a b => by simp only [Bool.or_eq_true, decide_eq_true_eq]; omega) l
  have h2 : (srt l).Nodup := (srt_perm l).nodup_iff.2 h
  refine (List.Pairwise.and h1 h2).imp fun {a b} h => ?_
  have := h.1
  have := h.2
  simp only [decide_eq_true_eq] at *
  omega

theorem dfs_pre {T : AT} : ∀ {n : Nat} {p : List Int} {x : List Int × Value}, x ∈ dfs T n p → ∃ y, x.1 = p ++ y
  | 0, _, _, h => by simp [dfs] at h
  | n + 1, p, x, h => by
    rw [dfs_succ, List.mem_append] at h
    rcases h with h | h
    · cases hf : T.f p with
      | none => rw [hf] at h; cases h
      | some v =>
        rw [hf] at h
        simp only [List.mem_singleton] at h
        exact ⟨[], by rw [h]; simp⟩
    · obtain ⟨r, _, hr⟩ := List.mem_flatMap.1 h
      obtain ⟨y, hy⟩ := dfs_pre hr
      exact ⟨r :: y, by rw [hy]; simp⟩

theorem dfs_sorted {T : AT} (hnd : ∀ p, (T.K p).Nodup) : ∀ (n : Nat) (p : List Int), (dfs T n p).Pairwise fun x y => lx x.1 y.1
  | 0, _ => by simp [dfs]
  | n + 1, p => by
    rw [dfs_succ, List.pairwise_append]
    refine ⟨?_, ?_, ?_⟩
    · cases T.f p <;> simp
    · rw [List.flatMap_def, List.pairwise_flatten]
      refine ⟨fun l hl => ?_, ?_⟩
      · obtain ⟨r, _, rfl⟩ := List.mem_map.1 hl
        exact dfs_sorted hnd n _
      · rw [List.pairwise_map]
        refine (srt_strict (hnd p)).imp fun {r s} hrs => fun x hx y hy => ?_
        obtain ⟨a, ha⟩ := dfs_pre hx
        obtain ⟨b, hb⟩ := dfs_pre hy
        rw [ha, hb, List.append_assoc, List.append_assoc]
        exact lx_branch hrs a b p
    · intro x hx y hy
      cases hf : T.f p with
      | none => rw [hf] at hx; cases hx
      | some v =>
        rw [hf] at hx
        simp only [List.mem_singleton] at hx
        subst hx
        obtain ⟨r, _, hr⟩ := List.mem_flatMap.1 hy
        obtain ⟨b, hb⟩ := dfs_pre hr
        rw [hb, List.append_assoc]
        exact lx_append r b p

theorem dfs_mem {T : AT} {t : Nat} (ok : T.Ok t) : ∀ (n : Nat) (p : List Int), (∀ q, (T.N q).isSome → q.length < p.length + n) → (T.N p).isSome → ∀ q v, (q, v) ∈ dfs T n p ↔ T.f q = some v ∧ ∃ y, q = p ++ y
  | 0, p, hd, hp, q, v => by
    have := hd p hp
    omega
  | n + 1, p, hd, hp, q, v => by
    rw [dfs_succ, List.mem_append]
    constructor
    · rintro (h | h)
      · cases hf : T.f p with
        | none => rw [hf] at h; cases h
        | some u =>
          rw [hf] at h
          simp only [List.mem_singleton, Prod.mk.injEq] at h
          obtain ⟨rfl, rfl⟩ := h
          exact ⟨hf, [], by simp⟩
      · obtain ⟨r, hr1, hr2⟩ := List.mem_flatMap.1 h
        have hr : r ∈ T.K p := (srt_perm _).mem_iff.1 hr1
        obtain ⟨h1, y, h2⟩ := (dfs_mem ok n (p ++ [r]) (fun q hq => by have := hd q hq; simp; omega) ((ok.pre p r).2 ⟨hp, hr⟩) q v).1 hr2
        exact ⟨h1, r :: y, by rw [h2]; simp⟩
    · rintro ⟨hf, y, rfl⟩
      cases y with
      | nil =>
        left
        rw [List.append_nil] at hf ⊢
        rw [hf]; simp
      | cons r y =>
        right
        have hN : (T.N ((p ++ [r]) ++ y)).isSome := by
          have := ok.fdom (p ++ r :: y) (by rw [hf]; rfl)
          simpa using this
        have hNr : (T.N (p ++ [r])).isSome := by
          cases hx : T.N (p ++ [r]) with
          | some _ => rfl
          | none =>
            have := ok.take_none (zs := (p ++ [r]) ++ y) (k := (p ++ [r]).length) (by rw [List.take_left']; exact hx; rfl)
            rw [this] at hN; cases hN
        have hr := ((ok.pre p r).1 hNr).2
        refine List.mem_flatMap.2 ⟨r, (srt_perm _).mem_iff.2 hr, (dfs_mem ok n (p ++ [r]) (fun q hq => by have := hd q hq; simp; omega) hNr _ v).2 ⟨hf, y, by simp⟩⟩

/-- **What Below lists**: any sorted list of the same members. -/
theorem below_eq {T : AT} {t D : Nat} (ok : T.Ok t) (hd : ∀ q, (T.N q).isSome → q.length < D) (zs : List Int) (ls : List (List Int × Value)) (hs : ls.Pairwise fun x y => lx x.1 y.1) (hm : ∀ q v, (q, v) ∈ ls ↔ T.f q = some v ∧ ∃ y, q = zs ++ y) : belowRes T D zs = ls := by
  unfold belowRes
  cases hz : T.N zs with
  | none =>
    symm
    rw [List.eq_nil_iff_forall_not_mem]
    rintro ⟨q, v⟩ hq
    obtain ⟨h1, y, rfl⟩ := (hm q v).1 hq
    have h2 := ok.take_none (zs := zs ++ y) (k := zs.length) (by rw [List.take_left']; exact hz; rfl)
    have h3 := ok.fdom (zs ++ y) (by rw [h1]; rfl)
    rw [h2] at h3; cases h3
  | some b =>
    have hzl := hd zs (by rw [hz]; rfl)
    refine sorted_unique (lt := fun x y : List Int × Value => lx x.1 y.1) (fun a => lx_irrefl _) (fun h k => lx_trans h k) (dfs_sorted ok.nodup _ _) hs ?_
    rintro ⟨q, v⟩
    rw [hm, dfs_mem ok _ _ (fun q hq => by have := hd q hq; omega) (by rw [hz]; rfl)]
end Go.Proofs.Ytioflglfnalcaaa

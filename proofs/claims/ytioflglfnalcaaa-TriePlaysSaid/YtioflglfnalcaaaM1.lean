/- glossarylaw04.TriePlays returns true, whatever the calls, and its input reads as it did. No condition. (Part M1.) -/
import Derived.Test.YtioflglfnalcaaaRb
import Derived.Deep.Onto
import Derived.Laws.OwnMore
import Derived.StillTailTactics
import Derived.BigRegion
/- TriePlays: the document's trie as a list of rows: put, take, get, longest; what they come to beside the things that lie in a trie. No program in sight. -/
namespace Go.Proofs.Ytioflglfnalcaaa

/-- A row and its thing. -/
abbrev RowT := List Int × Int

def ahead : List Int → List Int → Bool
  | _, [] => false
  | [], _ :: _ => true
  | a :: p, b :: q => if a = b then ahead p q else decide (a < b)
theorem ahead_iff : ∀ {p q : List Int}, ahead p q = true ↔ lx p q
  | [], [] => by simp [ahead, lx]
  | _ :: _, [] => by simp [ahead, lx]
  | [], _ :: _ => by simp [ahead, lx]
  | a :: p, b :: q => by
    simp only [ahead, lx]
    split
    · rename_i h
      subst h
      rw [ahead_iff]
      constructor
      · exact fun h => .inr ⟨rfl, h⟩
      · rintro (h | ⟨_, h⟩)
        · omega
        · exact h
    · rename_i h
      simp only [decide_eq_true_eq]
      constructor
      · exact fun h => .inl h
      · rintro (h1 | ⟨h1, _⟩)
        · exact h1
        · exact absurd h1 h
theorem lx_total : ∀ (p q : List Int), p ≠ q → ¬ lx p q → lx q p
  | [], [], h, _ => absurd rfl h
  | [], _ :: _, _, h => absurd trivial h
  | _ :: _, [], _, _ => trivial
  | a :: p, b :: q, h, h2 => by
    simp only [lx, not_or, not_and] at h2 ⊢
    by_cases hab : a = b
    · subst hab
      exact .inr ⟨rfl, lx_total p q (fun e => h (by rw [e])) (h2.2 rfl)⟩
    · exact .inl (by have := h2.1; omega)
theorem ahead_ne : ∀ {zs ys : List Int} {k : Nat}, zs.take k = ys.take k → k < zs.length → k < ys.length → zs.getD k 0 ≠ ys.getD k 0 → ahead zs ys = decide (zs.getD k 0 < ys.getD k 0)
  | [], _, _, _, h, _, _ => absurd h (Nat.not_lt_zero _)
  | _ :: _, [], _, _, _, h, _ => absurd h (Nat.not_lt_zero _)
  | a :: p, b :: q, 0, _, _, _, hne => by
    simp only [List.getD_cons_zero] at hne ⊢
    simp [ahead, hne]
  | a :: p, b :: q, k + 1, ht, h1, h2, hne => by
    simp only [List.take_succ_cons, List.cons.injEq] at ht
    simp only [List.getD_cons_succ] at hne ⊢
    simp only [List.length_cons] at h1 h2
    simp only [ahead, ht.1, if_true]
    exact ahead_ne ht.2 (by omega) (by omega) hne
theorem ahead_end : ∀ {zs ys : List Int} {k : Nat}, zs.take k = ys.take k → k ≤ zs.length → k ≤ ys.length → (zs.length ≤ k ∨ ys.length ≤ k) → ahead zs ys = decide (zs.length < ys.length)
  | [], [], _, _, _, _, _ => by simp [ahead]
  | [], _ :: _, _, _, _, _, _ => by simp [ahead]
  | _ :: _, [], _, _, _, _, _ => by simp [ahead]
  | a :: p, b :: q, 0, _, _, _, h => by simp at h
  | a :: p, b :: q, k + 1, ht, h1, h2, h3 => by
    simp only [List.take_succ_cons, List.cons.injEq] at ht
    simp only [List.length_cons] at h1 h2 h3 ⊢
    simp only [ahead, ht.1, if_true]
    rw [ahead_end ht.2 (by omega) (by omega) (by omega)]
    simp

/-- Put, from a place on. -/
def putGo (key : List Int) (v : Int) : List RowT → Bool → List RowT
  | [], done => if done then [] else [(key, v)]
  | x :: L, done =>
    (if (!done && (decide (x.1 = key) || ahead key x.1)) = true then [(key, v)] else []) ++ (if (!decide (x.1 = key)) = true then [x] else []) ++ putGo key v L (done || (decide (x.1 = key) || ahead key x.1))
def putR (L : List RowT) (key : List Int) (v : Int) : List RowT := putGo key v L false
def hasR (L : List RowT) (key : List Int) : Bool := L.any fun x => decide (x.1 = key)
def takeR (L : List RowT) (key : List Int) : List RowT := L.filter fun x => !decide (x.1 = key)
def belowR (L : List RowT) (head : List Int) : List RowT := L.filter fun x => begB head x.1
def getR (L : List RowT) (key : List Int) : Int × Bool := match L.find? fun x => decide (x.1 = key) with
  | some x => (x.2, true)
  | none => (0, false)
/-- Longest, the first k rows being seen. -/
def better (b : Option RowT) (x : RowT) : Bool := match b with
  | none => true
  | some y => decide (y.1.length < x.1.length)
def lonStep (l : List Int) (b : Option RowT) (x : RowT) : Option RowT := if (begB x.1 l && better b x) = true then some x else b
def lonR (L : List RowT) (l : List Int) : Option RowT := L.foldl (lonStep l) none

def Sorted (L : List RowT) : Prop := L.Pairwise fun x y => lx x.1 y.1

theorem putGo_true (key : List Int) (v : Int) : ∀ L, putGo key v L true = takeR L key
  | [] => rfl
  | x :: L => by
    simp only [putGo, Bool.not_true, Bool.false_and, Bool.false_eq_true, if_false, List.nil_append, Bool.true_or, putGo_true key v L, takeR, List.filter_cons]
    cases decide (x.1 = key) <;> simp
theorem takeR_id {L : List RowT} {key : List Int} (h : ∀ x ∈ L, x.1 ≠ key) : takeR L key = L := by
  unfold takeR
  rw [List.filter_eq_self]
  intro x hx
  simp [h x hx]
theorem putGo_mem (key : List Int) (v : Int) : ∀ (L : List RowT), Sorted L → ∀ x, x ∈ putGo key v L false ↔ x = (key, v) ∨ (x.1 ≠ key ∧ x ∈ L)
  | [], _, x => by simp [putGo]
  | y :: L, hs, x => by
    have hs' := List.pairwise_cons.1 hs
    by_cases h1 : y.1 = key
    · subst h1
      have e : putGo y.1 v (y :: L) false = (y.1, v) :: takeR L y.1 := by simp [putGo, putGo_true]
      rw [e, takeR_id fun z hz e2 => lx_irrefl _ (e2 ▸ hs'.1 z hz)]
      simp only [List.mem_cons]
      constructor
      · rintro (h | h)
        · exact .inl h
        · exact .inr ⟨fun e2 => lx_irrefl _ (e2 ▸ hs'.1 x h), .inr h⟩
      · rintro (h | ⟨h, rfl | h2⟩)
        · exact .inl h
        · exact absurd rfl h
        · exact .inr h2
    · cases h2 : ahead key y.1 with
      | true =>
        have e : putGo key v (y :: L) false = (key, v) :: y :: takeR L key := by simp [putGo, putGo_true, h1, h2]
        have hl := ahead_iff.1 h2
        rw [e, takeR_id (key := key) fun z hz e2 => lx_irrefl _ (lx_trans hl (e2 ▸ hs'.1 z hz))]
        simp only [List.mem_cons]
        constructor
        · rintro (h | rfl | h)
          · exact .inl h
          · exact .inr ⟨h1, .inl rfl⟩
          · exact .inr ⟨fun e2 => lx_irrefl _ (lx_trans hl (e2 ▸ hs'.1 x h)), .inr h⟩
        · rintro (h | ⟨_, h⟩)
          · exact .inl h
          · exact .inr h
      | false =>
        have e : putGo key v (y :: L) false = y :: putGo key v L false := by simp [putGo, h1, h2]
        rw [e, List.mem_cons, putGo_mem key v L hs'.2 x]
        simp only [List.mem_cons]
        constructor
        · rintro (rfl | h | ⟨h, h3⟩)
          · exact .inr ⟨h1, .inl rfl⟩
          · exact .inl h
          · exact .inr ⟨h, .inr h3⟩
        · rintro (h | ⟨h, h3 | h3⟩)
          · exact .inr (.inl h)
          · exact .inl h3
          · exact .inr (.inr ⟨h, h3⟩)
theorem putGo_sorted (key : List Int) (v : Int) : ∀ (L : List RowT), Sorted L → Sorted (putGo key v L false)
  | [], _ => by simp [putGo, Sorted]
  | y :: L, hs => by
    have hs' := List.pairwise_cons.1 hs
    by_cases h1 : y.1 = key
    · subst h1
      have e : putGo y.1 v (y :: L) false = (y.1, v) :: takeR L y.1 := by simp [putGo, putGo_true]
      rw [e, takeR_id fun z hz e2 => lx_irrefl _ (e2 ▸ hs'.1 z hz)]
      exact List.pairwise_cons.2 ⟨hs'.1, hs'.2⟩
    · cases h2 : ahead key y.1 with
      | true =>
        have e : putGo key v (y :: L) false = (key, v) :: y :: takeR L key := by simp [putGo, putGo_true, h1, h2]
        have hl := ahead_iff.1 h2
        rw [e, takeR_id (key := key) fun z hz e2 => lx_irrefl _ (lx_trans hl (e2 ▸ hs'.1 z hz))]
        refine List.pairwise_cons.2 ⟨fun z hz => ?_, hs⟩
        rcases List.mem_cons.1 hz with rfl | hz
        · exact hl
        · exact lx_trans hl (hs'.1 z hz)
      | false =>
        have e : putGo key v (y :: L) false = y :: putGo key v L false := by simp [putGo, h1, h2]
        rw [e]
        refine List.pairwise_cons.2 ⟨fun z hz => ?_, putGo_sorted key v L hs'.2⟩
        rcases (putGo_mem key v L hs'.2 z).1 hz with rfl | ⟨_, hz⟩
        · exact lx_total _ _ (fun e => h1 e.symm) fun h => by rw [ahead_iff.2 h] at h2; cases h2
        · exact hs'.1 z hz
theorem putR_sorted {L : List RowT} (h : Sorted L) (key : List Int) (v : Int) : Sorted (putR L key v) := putGo_sorted key v L h
theorem putR_mem {L : List RowT} (h : Sorted L) (key : List Int) (v : Int) (x : RowT) : x ∈ putR L key v ↔ x = (key, v) ∨ (x.1 ≠ key ∧ x ∈ L) := putGo_mem key v L h x
theorem takeR_sorted {L : List RowT} (h : Sorted L) (key : List Int) : Sorted (takeR L key) := List.Pairwise.filter _ h
theorem takeR_mem (L : List RowT) (key : List Int) (x : RowT) : x ∈ takeR L key ↔ x.1 ≠ key ∧ x ∈ L := by
  unfold takeR
  rw [List.mem_filter]
  simp [and_comm]
theorem hasR_iff (L : List RowT) (key : List Int) : hasR L key = true ↔ ∃ v, (key, v) ∈ L := by
  unfold hasR
  simp only [List.any_eq_true, decide_eq_true_eq]
  constructor
  · rintro ⟨⟨q, v⟩, h, rfl⟩; exact ⟨v, h⟩
  · rintro ⟨v, h⟩; exact ⟨_, h, rfl⟩
theorem takeR_len (L : List RowT) (key : List Int) : decide ((takeR L key).length < L.length) = hasR L key := by
  cases h : hasR L key with
  | true =>
    obtain ⟨v, hv⟩ := (hasR_iff L key).1 h
    simp only [decide_eq_true_eq]
    unfold takeR
    exact List.length_filter_lt_length_iff_exists.2 ⟨_, hv, by simp⟩
  | false =>
    have : takeR L key = L := takeR_id fun x hx e => by
      have : hasR L key = true := (hasR_iff L key).2 ⟨x.2, by rw [← e]; exact hx⟩
      rw [h] at this; cases this
    rw [this]; simp
theorem sorted_key {L : List RowT} (h : Sorted L) {q : List Int} {u v : Int} (hu : (q, u) ∈ L) (hv : (q, v) ∈ L) : u = v := by
  obtain ⟨i, hi, h1⟩ := List.mem_iff_getElem.1 hu
  obtain ⟨j, hj, h2⟩ := List.mem_iff_getElem.1 hv
  have hP := List.pairwise_iff_getElem.1 h
  rcases (by omega : i < j ∨ i = j ∨ j < i) with h3 | rfl | h3
  · have := hP i j hi hj h3
    rw [h1, h2] at this
    exact absurd this (lx_irrefl _)
  · rw [h1] at h2; injection h2
  · have := hP j i hj hi h3
    rw [h1, h2] at this
    exact absurd this (lx_irrefl _)

/-- The things under f are the rows of L. -/
def Lies (f : List Int → Option Value) (L : List RowT) : Prop := ∀ q u, f q = some u ↔ ∃ v, u = .int .i64 v ∧ (q, v) ∈ L

theorem lies_put {f : List Int → Option Value} {L : List RowT} (h : Lies f L) (hs : Sorted L) (key : List Int) (v : Int) : Lies (fun q => if q = key then some (.int .i64 v) else f q) (putR L key v) := fun q u => by
  by_cases e : q = key
  · subst e
    simp only [if_true, putR_mem hs]
    constructor
    · intro h1; injection h1 with h1; exact ⟨v, h1.symm, .inl rfl⟩
    · rintro ⟨v', rfl, h1 | ⟨h1, _⟩⟩
      · injection h1 with _ h1; rw [h1]
      · exact absurd rfl h1
  · simp only [if_neg e, h q u, putR_mem hs]
    constructor
    · rintro ⟨v', h1, h2⟩; exact ⟨v', h1, .inr ⟨e, h2⟩⟩
    · rintro ⟨v', h1, h2 | ⟨_, h2⟩⟩
      · injection h2 with h2 _; exact absurd h2 e
      · exact ⟨v', h1, h2⟩
theorem lies_take {f : List Int → Option Value} {L : List RowT} (h : Lies f L) (key : List Int) : Lies (fun q => if q = key then none else f q) (takeR L key) := fun q u => by
  by_cases e : q = key
  · subst e
    simp [takeR_mem]
  · simp only [if_neg e, h q u, takeR_mem]
    constructor
    · rintro ⟨v', h1, h2⟩; exact ⟨v', h1, e, h2⟩
    · rintro ⟨v', h1, _, h2⟩; exact ⟨v', h1, h2⟩
theorem lies_has {f : List Int → Option Value} {L : List RowT} (h : Lies f L) (key : List Int) : (f key).isSome = hasR L key := by
  cases hf : f key with
  | none =>
    cases hh : hasR L key with
    | false => rfl
    | true =>
      obtain ⟨v, hv⟩ := (hasR_iff L key).1 hh
      have := (h key _).2 ⟨v, rfl, hv⟩
      rw [hf] at this; cases this
  | some u =>
    obtain ⟨v, _, hv⟩ := (h key u).1 hf
    exact ((hasR_iff L key).2 ⟨v, hv⟩).symm
theorem getR_some {L : List RowT} {key : List Int} {x : RowT} (h : L.find? (fun x => decide (x.1 = key)) = some x) : getR L key = (x.2, true) := by unfold getR; rw [h]
theorem getR_none {L : List RowT} {key : List Int} (h : L.find? (fun x => decide (x.1 = key)) = none) : getR L key = (0, false) := by unfold getR; rw [h]
theorem lies_get {f : List Int → Option Value} {L : List RowT} (h : Lies f L) (key : List Int) : (f key).getD (.int .i64 0) = .int .i64 (getR L key).1 ∧ (f key).isSome = (getR L key).2 := by
  cases hg : L.find? (fun x => decide (x.1 = key)) with
  | some x =>
    rw [getR_some hg]
    have h1 := List.find?_some hg
    have h2 := List.mem_of_find?_eq_some hg
    simp only [decide_eq_true_eq] at h1
    subst h1
    have := (h x.1 _).2 ⟨x.2, rfl, h2⟩
    rw [this]
    exact ⟨rfl, rfl⟩
  | none =>
    rw [getR_none hg]
    cases hf : f key with
    | none => exact ⟨rfl, rfl⟩
    | some u =>
      obtain ⟨v, _, hv⟩ := (h key u).1 hf
      have := List.find?_eq_none.1 hg _ hv
      simp at this

/-- What the longest beginning comes to. -/
def lonVal (o : Option RowT) : Int × Nat × Bool := match o with
  | some x => (x.2, x.1.length, true)
  | none => (0, 0, false)

/-- The best of the rows that were seen. -/
def BestOf (l : List Int) (M : List RowT) (b : Option RowT) : Prop :=
  (∀ x ∈ M, begB x.1 l = true → ∃ y, b = some y ∧ x.1.length ≤ y.1.length) ∧ ∀ y, b = some y → y ∈ M ∧ begB y.1 l = true
theorem bestOf_step {l : List Int} {M : List RowT} {b : Option RowT} (h : BestOf l M b) (x : RowT) : BestOf l (M ++ [x]) (lonStep l b x) := by
  unfold lonStep
  split
  · rename_i hc
    simp only [Bool.and_eq_true] at hc
    refine ⟨fun z hz hb => ?_, fun y hy => ?_⟩
    · refine ⟨x, rfl, ?_⟩
      rcases List.mem_append.1 hz with hz | hz
      · obtain ⟨y, hy, hl⟩ := h.1 z hz hb
        rw [hy] at hc
        have := hc.2
        simp only [better, decide_eq_true_eq] at this
        omega
      · simp only [List.mem_singleton] at hz; rw [hz]; exact Nat.le_refl _
    · injection hy with hy
      subst hy
      exact ⟨by simp, hc.1⟩
  · rename_i hc
    refine ⟨fun z hz hb => ?_, fun y hy => ?_⟩
    · rcases List.mem_append.1 hz with hz | hz
      · exact h.1 z hz hb
      · simp only [List.mem_singleton] at hz
        subst hz
        cases b with
        | none => exact absurd (by simp [hb, better]) hc
        | some y => exact ⟨y, rfl, by
            simp only [hb, better, Bool.true_and, decide_eq_true_eq] at hc
            omega⟩
    · exact ⟨List.mem_append.2 (.inl (h.2 y hy).1), (h.2 y hy).2⟩
theorem bestOf_fold (l : List Int) : ∀ (L M : List RowT) (b : Option RowT), BestOf l M b → BestOf l (M ++ L) (L.foldl (lonStep l) b)
  | [], M, b, h => by simpa using h
  | x :: L, M, b, h => by
    have := bestOf_fold l L (M ++ [x]) _ (bestOf_step h x)
    simpa using this
theorem bestOf_all (l : List Int) (L : List RowT) : BestOf l L (lonR L l) := by
  have := bestOf_fold l L [] none ⟨by simp, by simp⟩
  simpa [lonR] using this

theorem lon_of_best {f : List Int → Option Value} {L : List RowT} (h : Lies f L) {l : List Int} {b : Option RowT} (hb : BestOf l L b) :
    lon (.int .i64 0) f l l.length = (.int .i64 (lonVal b).1, (lonVal b).2.1, (lonVal b).2.2) := by
  have hnone : ∀ j, j ≤ l.length → (∀ y, b = some y → y.1.length < j) → f (l.take j) = none := fun j hj hy => by
    cases hf : f (l.take j) with
    | none => rfl
    | some u =>
      obtain ⟨v, _, hv⟩ := (h _ u).1 hf
      obtain ⟨y, e, hl⟩ := hb.1 _ hv ((begB_iff _ _).2 ⟨l.drop j, by simp⟩)
      have := hy y e
      simp only [List.length_take] at hl
      omega
  cases b with
  | none =>
    rw [lon_stop (k := 0) (by omega) fun j h1 h2 => hnone j h2 (fun y e => by cases e)]
    have := hnone 0 (by omega) (fun y e => by cases e)
    simp only [List.take_zero] at this
    simp [lon, this, lonVal]
  | some y =>
    obtain ⟨hm, hbg⟩ := hb.2 y rfl
    obtain ⟨s, hs⟩ := (begB_iff _ _).1 hbg
    have hyl : y.1.length ≤ l.length := by rw [hs]; simp
    have hyt : l.take y.1.length = y.1 := by rw [hs]; simp
    rw [lon_stop (k := y.1.length) hyl fun j h1 h2 => hnone j h2 (fun z e => by injection e with e; rw [← e]; exact h1)]
    have hf : f y.1 = some (.int .i64 y.2) := (h _ _).2 ⟨y.2, rfl, hm⟩
    cases hk : y.1.length with
    | zero =>
      have e0 : y.1 = [] := List.eq_nil_of_length_eq_zero hk
      rw [e0] at hf
      simp [lon, hf, lonVal, hk]
    | succ k =>
      have : f (l.take (k + 1)) = some (.int .i64 y.2) := by rw [← hk, hyt]; exact hf
      rw [lon_succ_some this]
      simp [lonVal, hk]
theorem lies_lon {f : List Int → Option Value} {L : List RowT} (h : Lies f L) (l : List Int) : lon (.int .i64 0) f l l.length = (.int .i64 (lonVal (lonR L l)).1, (lonVal (lonR L l)).2.1, (lonVal (lonR L l)).2.2) :=
  lon_of_best h (bestOf_all l L)

/-- What an iterator hands out. -/
def outs (L : List RowT) : List (List Int × Value) := L.map fun x => (x.1, Value.int .i64 x.2)
theorem outs_sorted {L : List RowT} (h : Sorted L) : (outs L).Pairwise fun x y => lx x.1 y.1 := by
  unfold outs
  rw [List.pairwise_map]
  exact h
theorem lies_below {T : AT} {t D : Nat} (ok : T.Ok t) (hd : ∀ q, (T.N q).isSome → q.length < D) {L : List RowT} (h : Lies T.f L) (hs : Sorted L) (zs : List Int) : belowRes T D zs = outs (belowR L zs) := by
  refine below_eq ok hd zs _ (outs_sorted (List.Pairwise.filter _ hs)) fun q v => ?_
  unfold outs belowR
  simp only [List.mem_map, List.mem_filter, begB_iff, h q v]
  constructor
  · rintro ⟨⟨q', v'⟩, ⟨h1, h2⟩, h3⟩
    injection h3 with h3 h4
    subst h3; subst h4
    exact ⟨⟨v', rfl, h1⟩, h2⟩
  · rintro ⟨⟨v', rfl, h1⟩, h2⟩
    exact ⟨(q, v'), ⟨h1, h2⟩, rfl⟩
theorem belowR_nil (L : List RowT) : belowR L [] = L := by
  unfold belowR
  rw [List.filter_eq_self]
  intro x _
  simp [begB]
theorem lies_count {T : AT} {t : Nat} (ok : T.Ok t) {L : List RowT} (h : Lies T.f L) (hs : Sorted L) : T.ps.length = L.length := by
  have h0 : (L.map (·.1)).Nodup := by
    rw [List.Nodup, List.pairwise_map]
    refine hs.imp ?_
    intro x y h e
    rw [e] at h
    exact lx_irrefl _ h
  have h1 := nodup_le (l' := L.map (·.1)) ok.psn fun q hq => by
    obtain ⟨u, hu⟩ := Option.isSome_iff_exists.1 ((ok.psm q).1 hq)
    obtain ⟨v, _, hv⟩ := (h q u).1 hu
    exact List.mem_map.2 ⟨(q, v), hv, rfl⟩
  have h2 := nodup_le (l' := T.ps) h0 fun q hq => by
    obtain ⟨⟨q', v⟩, hx, rfl⟩ := List.mem_map.1 hq
    exact (ok.psm q').2 (by rw [(h q' _).2 ⟨v, rfl, hx⟩]; rfl)
  simp only [List.length_map] at h1 h2
  omega

/-- The numbers behind a trie's rows come from rows of ks. -/
def AT.Within (T : AT) (ks : List (List Int)) : Prop := ∀ p r, r ∈ T.K p → ∃ s, p ++ r :: s ∈ ks
theorem within_small {T : AT} {t : Nat} (ok : T.Ok t) {ks : List (List Int)} (h : T.Within ks) {D : Nat} (hk : ∀ q ∈ ks, q.length ≤ D) : T.Small D ks.length := by
  refine ⟨fun q hq => ?_, fun p => ?_⟩
  · rcases List.eq_nil_or_concat q with rfl | ⟨p, r, rfl⟩
    · simp
    · rw [List.concat_eq_append] at hq ⊢
      obtain ⟨s, hs⟩ := h p r ((ok.pre p r).1 hq).2
      have := hk _ hs
      simp only [List.length_append, List.length_cons, List.length_nil] at this ⊢
      omega
  · let g : List Int → Int := fun k => (k.drop p.length).headD 0
    have h1 : (T.K p).length ≤ (ks.map g).length := nodup_le (ok.nodup p) fun r hr => by
      obtain ⟨s, hs⟩ := h p r hr
      exact List.mem_map.2 ⟨_, hs, by simp [g]⟩
    simpa using h1
theorem Within_put {T T' : AT} {ks : List (List Int)} {key : List Int} (h : T.Within ks) (hg : T.Grew T' key) (hk : key ∈ ks) : T'.Within ks := fun p r hr => by
  rcases hg p r hr with h1 | ⟨s, h1⟩
  · exact h p r h1
  · exact ⟨s, h1 ▸ hk⟩
end Go.Proofs.Ytioflglfnalcaaa

/- TriePlays: Ahead, Begins; a list of rows in memory; find, Get, Longest. -/
namespace Go.Proofs.Ytioflglfnalcaaa
open Go.RowKit

set_option maxHeartbeats 1000000 in
set_option maxRecDepth 100000 in
theorem ahead_i (w : World) (A B : Option Addr) (ca cb : Nat) (zs ys : List Int) (hlen : zs.length ≤ 140737488351232) (hlen2 : ys.length ≤ 140737488351232) (ha : RdI w A zs) (hb : RdI w B ys) :
    Calls Try.prog 55 #[.slice A zs.length ca, .slice B ys.length cb] w (BoolPost w (ahead zs ys)) := by
  have Ha := Lib.hid ha
  have Hb := Lib.hid hb
  clear ha hb
  go_enter Try.func55, Try.ntmps55
  go_wp2
  go_loopw [5] (fun i wr => ∃ k n : Nat, k ≤ zs.length ∧ k ≤ ys.length ∧ i = .int .i64 k ∧ Hid (zs.take k = ys.take k) ∧ wr = w.drewN n) (fun i _ => zs.length - (intOf i).toNat)
  case atStart => exact ⟨0, 0, by omega, by omega, rfl, by simp [Hid], rfl⟩
  case round =>
    obtain ⟨k, n, hk, hk2, rfl, htk, rfl⟩ := hrel
    by_cases hlt : k < zs.length
    · by_cases hlt2 : k < ys.length
      · obtain ⟨ab, off, rfl, hc⟩ := Ha.out k hlt
        obtain ⟨bb, off2, rfl, hd⟩ := Hb.out k hlt2
        have ht := take_getD hlt
        have hu := take_getD hlt2
        have hcd : decide ((k : Int) < (zs.length : Int)) = true := by simp; omega
        have hcd2 : decide ((k : Int) < (ys.length : Int)) = true := by simp; omega
        by_cases hx : zs.getD k 0 = ys.getD k 0
        · have H1 : Hid (zs.take (k + 1) = ys.take (k + 1)) := by rw [ht, hu, htk.out, hx]; exact rfl
          rw [hx] at hc
          have hbb : (ys.getD k 0 != ys.getD k 0) = false := by simp
          generalize ys.getD k 0 = r at hc hd hbb
          clear ht hu hx
          have g0 : (0 : Int) ≤ (k : Int) := by omega
          have g1 : (k : Int) < (zs.length : Int) := by omega
          have g2 : (k : Int) < (ys.length : Int) := by omega
          go_wp2
          go_quiet (fail)
          go_wp2
          go_roundw
          case rel => exact ⟨k + 1, _, by omega, by omega, by go_num, H1, rfl⟩
          case measure => simp [intOf]; omega
        · have hl2 := Lib.hid (ahead_ne htk.out hlt hlt2 hx)
          have hbb : (zs.getD k 0 != ys.getD k 0) = true := by simpa using hx
          generalize zs.getD k 0 = r at hc hbb hl2
          generalize ys.getD k 0 = r2 at hd hbb hl2
          clear ht hu hx
          have g0 : (0 : Int) ≤ (k : Int) := by omega
          have g1 : (k : Int) < (zs.length : Int) := by omega
          have g2 : (k : Int) < (ys.length : Int) := by omega
          go_wp2
          go_quiet (fail)
          go_wp2
          go_quiet (fail)
          go_wp2
          go_ret
          exact ⟨by rw [hl2.out]; first | done | rfl, _, by first | exact World.drewN_drewN _ _ _ | (rw [World.drewN_drewN, World.drewN_drewN])⟩
      · have hl3 := Lib.hid (ahead_end htk.out hk hk2 (.inr (by omega)))
        have hcd : decide ((k : Int) < (zs.length : Int)) = true := by simp; omega
        have hcd2 : decide ((k : Int) < (ys.length : Int)) = false := by simp; omega
        have hdl : decide ((zs.length : Int) < (ys.length : Int)) = decide (zs.length < ys.length) := by congr 1; simp
        go_wp2
        go_ret
        exact ⟨by rw [hl3.out]; first | done | (simp; done) | rfl, _, rfl⟩
    · have hl3 := Lib.hid (ahead_end htk.out hk hk2 (.inl (by omega)))
      have hcd : decide ((k : Int) < (zs.length : Int)) = false := by simp; omega
      have hdl : decide ((zs.length : Int) < (ys.length : Int)) = decide (zs.length < ys.length) := by congr 1; simp
      go_wp2
      go_ret
      exact ⟨by rw [hl3.out]; first | done | (simp; done) | rfl, _, rfl⟩

set_option maxHeartbeats 400000 in
theorem begins_i (w : World) (A B : Option Addr) (ca cb : Nat) (l head : List Int) (hlen2 : head.length ≤ 140737488351232) (ha : RdI w A l) (hb : RdI w B head) (hc : l.length ≤ ca) :
    Calls Try.prog 57 #[.slice A l.length ca, .slice B head.length cb] w (BoolPost w (begB head l)) := by
  by_cases hlp : head.length ≤ l.length
  · have hpt : (l.take head.length).length = head.length := by rw [List.length_take]; omega
    have hsame : Hid (Calls Try.prog 17 #[.slice A head.length ca, .slice B head.length cb] w (BoolPost w (decide (l.take head.length = head)))) := by
      have := same_runes w A B ca cb (l.take head.length) head (by omega) (rdI_take ha head.length) hb
      rw [hpt] at this
      exact this
    have hbg : begB head l = decide (l.take head.length = head) := by unfold begB; simp [hlp]
    have hd1 : decide ((l.length : Int) < (head.length : Int)) = false := by simp; omega
    have hd2 : ¬ (l.length : Int) < (head.length : Int) := by omega
    have hd3 : (head.length : Int) ≤ (ca : Int) := by omega
    have hd4 : head.length ≤ ca := by omega
    replace hbg := Lib.hid hbg
    clear hpt ha hb
    go_enter Try.func57, Try.ntmps57
    go_wp2_with fail
    refine hsame.out.mono ?_
    rintro e _ ⟨rfl, m, rfl⟩
    go_wp2
    go_ret
    exact ⟨by rw [hbg.out]; first | done | rfl, _, rfl⟩
  · have hbg : begB head l = false := by unfold begB; simp [hlp]
    have hd1 : decide ((l.length : Int) < (head.length : Int)) = true := by simp; omega
    have hd2 : (l.length : Int) < (head.length : Int) := by omega
    replace hbg := Lib.hid hbg
    clear ha hb
    go_enter Try.func57, Try.ntmps57
    go_wp2
    go_ret
    exact ⟨by rw [hbg.out]; first | done | rfl, 0, rfl⟩
end Go.Proofs.Ytioflglfnalcaaa

/- TriePlays: a list of rows in memory; find, Get, Longest. -/
namespace Go.Proofs.Ytioflglfnalcaaa
open Go.RowKit

theorem below_drewN {B : Nat} {a w : World} (h : Below B a w) (n : Nat) : Below B a (w.drewN n) := ⟨h.os, h.tape, h.output, h.size, h.block⟩

def FlatIs (Z : Nat → Prop) (w : World) (flat : List Value) (L : List RowT) : Prop :=
  ∀ i x, L[i]? = some x → ∃ A cap, flat[i * 2]? = some (.slice A x.1.length cap) ∧ flat[i * 2 + 1]? = some (.int .i64 x.2) ∧ RdT w A x.1 ∧ (∀ ad, A = some ad → x.1 ≠ [] → Z ad.block) ∧ x.1.length ≤ cap
/-- A slice that reads as rows; they and their keys lie in blocks of Z. -/
def RefIs (Z : Nat → Prop) (w : World) (v : Value) (L : List RowT) : Prop := ∃ flat, w.ownsRow 0 83 2 v L.length flat ∧ FlatIs Z w flat L ∧ ∀ g, v.ownBlock = some g → Z g

theorem RefIs.form {Z : Nat → Prop} {w : World} {v : Value} {L : List RowT} (h : RefIs Z w v L) : ∃ A cap, v = .slice A L.length cap := by
  obtain ⟨flat, h1, h2, _⟩ := h
  rcases h1.2 with ⟨rfl, h0⟩ | ⟨g, cap, cur, rfl, _⟩
  · exact ⟨none, 0, by rw [h0]⟩
  · exact ⟨_, cap, rfl⟩
/-- Row k. -/
theorem RefIs.row {Z : Nat → Prop} {w : World} {A : Option Addr} {n cap : Nat} {L : List RowT} (h : RefIs Z w (.slice A n cap) L) {k : Nat} {x : RowT} (hk : L[k]? = some x) :
    ∃ g B c, A = some ⟨g, 0, none⟩ ∧ w.cell? ⟨g, k * 2, none⟩ = some (.slice B x.1.length c) ∧ w.cell? ⟨g, k * 2 + 1, none⟩ = some (.int .i64 x.2) ∧ RdT w B x.1 ∧ x.1.length ≤ c ∧ (∀ ad, B = some ad → x.1 ≠ [] → Z ad.block) := by
  obtain ⟨flat, h1, h2, _⟩ := h
  obtain ⟨B, c, e1, e2, e3, e4, e5⟩ := h2 k x hk
  have hkl : k < L.length := by
    rcases Nat.lt_or_ge k L.length with h1 | h1
    · exact h1
    · rw [List.getElem?_eq_none h1] at hk; cases hk
  rcases h1.2 with ⟨_, h0⟩ | ⟨g, cap, cur, he, hr⟩
  · omega
  · injection he with he1 he2 he3
    subst he1; subst he2; subst he3
    exact ⟨g, B, c, rfl, by rw [h1.cellAt _ (by omega)]; exact e1, by rw [h1.cellAt _ (by omega)]; exact e2, e3, e5, e4⟩
theorem RefIs.nil (Z : Nat → Prop) (w : World) : RefIs Z w (.slice none 0 0) [] := ⟨[], World.ownsRow_nil _ _ _ _, fun i x h => by simp at h, fun g h => by simp [Value.ownBlock] at h⟩
theorem FlatIs.mono {Z Z' : Nat → Prop} {w : World} {flat : List Value} {L : List RowT} (h : FlatIs Z w flat L) (hz : ∀ j, j < w.heap.size → Z j → Z' j) : FlatIs Z' w flat L := fun i x hx => by
  obtain ⟨A, cap, e1, e2, e3, e4, e5⟩ := h i x hx
  exact ⟨A, cap, e1, e2, e3, fun ad e hne => hz _ (rdI_lt e3.rd ad e hne) (e4 ad e hne), e5⟩
theorem FlatIs.frame {Z S : Nat → Prop} {w w' : World} {flat : List Value} {L : List RowT} (h : FlatIs Z w flat L) (hf : Fr S w w') (hs : ∀ j c t f, S j → w.heap[j]? = some (.cells c t f) → t = 21 → ¬ Z j) : FlatIs Z w' flat L := fun i x hx => by
  obtain ⟨A, cap, h1, h2, h3, h4, h5⟩ := h i x hx
  refine ⟨A, cap, h1, h2, fun k hk => ?_, h4, h5⟩
  obtain ⟨b, off, c, f, e, hb, hc⟩ := h3 k hk
  exact ⟨b, off, c, f, e, hf.heap hb fun hS => hs b c 21 f hS hb rfl (h4 _ e fun e => by rw [e] at hk; simp at hk), hc⟩
theorem RefIs.frame {Z S : Nat → Prop} {w w' : World} {v : Value} {L : List RowT} (h : RefIs Z w v L) (hf : Fr S w w') (hs : ∀ j c t f, S j → w.heap[j]? = some (.cells c t f) → t = 83 ∨ t = 21 → ¬ Z j) : RefIs Z w' v L := by
  obtain ⟨flat, h1, h2, h3⟩ := h
  refine ⟨flat, ⟨h1.1, ?_⟩, h2.frame hf fun j c t f hS hj e => hs j c t f hS hj (.inr e), h3⟩
  rcases h1.2 with h4 | ⟨g, cap, cur, hv, hg, hh, r⟩
  · exact .inl h4
  · exact .inr ⟨g, cap, cur, hv, hg, hf.heap hh (fun hS => hs g _ _ _ hS hh (.inl rfl) (h3 g (by rw [hv]; rfl))), r⟩
theorem RefIs.new {Z : Nat → Prop} {w w' : World} {v : Value} {L : List RowT} (h : RefIs Z w v L) (k : Below w.heap.size w w') : RefIs Z w' v L := h.frame (Fr.of_below k Nob) fun _ _ _ _ h => h.elim
theorem RefIs.drewN {Z : Nat → Prop} {w : World} {v : Value} {L : List RowT} (h : RefIs Z w v L) (n : Nat) : RefIs Z (w.drewN n) v L := h
theorem RefIs.mono {Z Z' : Nat → Prop} {w : World} {v : Value} {L : List RowT} (h : RefIs Z w v L) (hz : ∀ j, j < w.heap.size → Z j → Z' j) : RefIs Z' w v L := by
  obtain ⟨flat, h1, h2, h3⟩ := h
  exact ⟨flat, h1, h2.mono hz, fun g e => hz g (h1.lt g e).2 (h3 g e)⟩
theorem RefIs.tight {Z : Nat → Prop} {w : World} {v : Value} {L : List RowT} (h : RefIs Z w v L) : RefIs (fun j => j < w.heap.size) w v L := h.mono fun _ h _ => h

theorem find_drop {L : List RowT} {key : List Int} {k : Nat} {x : RowT} (h : L[k]? = some x) : (L.drop k).find? (fun x => decide (x.1 = key)) = if x.1 = key then some x else (L.drop (k + 1)).find? (fun x => decide (x.1 = key)) := by
  have hk : k < L.length := by
    rcases Nat.lt_or_ge k L.length with h1 | h1
    · exact h1
    · rw [List.getElem?_eq_none h1] at h; cases h
  rw [List.drop_eq_getElem_cons hk]
  rw [List.getElem?_eq_getElem hk] at h
  injection h with h
  rw [h, List.find?_cons]
  by_cases e : x.1 = key <;> simp [e]

/-- find: a place. -/
def FindP (w : World) (L : List RowT) (key : List Int) (e : Ending) (w' : World) : Prop :=
  Below w.heap.size w w' ∧ ((∃ (j : Nat) (x : RowT), e = .returned (.int .i64 (j : Int)) ∧ L[j]? = some x ∧ L.find? (fun x => decide (x.1 = key)) = some x) ∨ (e = .returned (.int .i64 (-1)) ∧ L.find? (fun x => decide (x.1 = key)) = none))

set_option maxHeartbeats 1000000 in
set_option maxRecDepth 100000 in
theorem rfind_i (w : World) (Z : Nat → Prop) (v : Value) (L : List RowT) (A : Option Addr) (cap : Nat) (key : List Int) (h : RefIs Z w v L) (hn : L.length ≤ 5864062014805) (hlen : ∀ x ∈ L, x.1.length ≤ 35184372087808) (ha : RdI w A key) :
    Calls Try.prog 56 #[.agg #[v], .slice A key.length cap] w (FindP w L key) := by
  obtain ⟨Av, cv, rfl⟩ := h.form
  obtain ⟨w0, hw0⟩ : ∃ w0, w0 = w.alloc (.cells #[.slice Av L.length cv] 27) := ⟨_, rfl⟩
  have hb0 : Below w.heap.size w w0 := by rw [hw0]; exact (Below.refl _ _).alloc (Nat.le_refl _) _
  have hbx : Boxed w0 w.heap.size 27 (.slice Av L.length cv) := by rw [hw0]; exact heap_alloc_eq _ _
  have Ha := Lib.hid (rdI_below ha hb0)
  have HR := Lib.hid (h.new hb0)
  have Hlen := Lib.hid hlen
  have hcb := hbx.cell
  have hB0 := Lib.hid hb0
  replace hw0 := Lib.hid hw0
  clear ha h hlen hb0
  go_enter Try.func56, Try.ntmps56
  go_wp2_with fail
  rw [← hw0.out]
  clear hw0
  go_loopw [5] (fun i wr => ∃ k n : Nat, k ≤ L.length ∧ i = .int .i64 k ∧ Hid (L.find? (fun x => decide (x.1 = key)) = (L.drop k).find? (fun x => decide (x.1 = key))) ∧ wr = w0.drewN n) (fun i _ => L.length - (intOf i).toNat)
  case atStart => exact ⟨0, 0, by omega, rfl, by simp [Hid], rfl⟩
  case round =>
    obtain ⟨k, n, hk, rfl, hf, rfl⟩ := hrel
    by_cases hlt : k < L.length
    · obtain ⟨x, hx⟩ : ∃ x, L[k]? = some x := ⟨L[k], by simp [hlt]⟩
      obtain ⟨g, B, c, rfl, hc1, hc2, hrd, hxc, -⟩ := HR.out.row hx
      have hxl := Hlen.out x (List.mem_of_getElem? hx)
      have hfd := find_drop (key := key) hx
      have hsame := Lib.hid (same_runes (w0.drewN n) B A c cap x.1 key (by omega) hrd.rd Ha.out)
      by_cases e : x.1 = key
      · have hfin : Hid (∃ (j : Nat) (x : RowT), Ending.returned (.int .i64 (k : Int)) = .returned (.int .i64 (j : Int)) ∧ L[j]? = some x ∧ L.find? (fun x => decide (x.1 = key)) = some x) := Lib.hid ⟨k, x, rfl, hx, by rw [hf.out, hfd, if_pos e]⟩
        have hd := decide_eq_true e
        rw [hd] at hsame
        clear hfd hx hrd hd
        have g0 : (0 : Int) ≤ (k : Int) := by omega
        have g1 : (k : Int) < (L.length : Int) := by omega
        generalize x.1.length = xl at *
        go_wp2_with fail
        refine hsame.out.mono ?_
        rintro e _ ⟨rfl, m, rfl⟩
        go_wp2
        go_ret
        exact ⟨below_drewN hB0.out _, .inl hfin.out⟩
      · have hd := decide_eq_false e
        rw [if_neg e] at hfd
        have hf2 := Lib.hid (hf.out.trans hfd)
        rw [hd] at hsame
        clear hfd hx hrd hd e
        have g0 : (0 : Int) ≤ (k : Int) := by omega
        have g1 : (k : Int) < (L.length : Int) := by omega
        generalize x.1.length = xl at *
        go_wp2_with fail
        refine hsame.out.mono ?_
        rintro e _ ⟨rfl, m, rfl⟩
        go_wp2
        go_roundw
        case rel => exact ⟨k + 1, _, by omega, by go_num, hf2, by first | rfl | exact World.drewN_drewN _ _ _⟩
        case measure => simp [intOf]; omega
    · have e : k = L.length := by omega
      subst e
      have hf2 := Lib.hid hf.out
      go_wp2
      go_ret
      exact ⟨below_drewN hB0.out _, .inr ⟨rfl, by rw [hf2.out]; simp⟩⟩

def GetRP (w : World) (L : List RowT) (key : List Int) (e : Ending) (w' : World) : Prop := e = .returned (.tuple #[.int .i64 (getR L key).1, .bool (getR L key).2]) ∧ Below w.heap.size w w'
set_option maxHeartbeats 1000000 in
set_option maxRecDepth 100000 in
theorem rget_i (w : World) (Z : Nat → Prop) (v : Value) (L : List RowT) (A : Option Addr) (cap : Nat) (key : List Int) (h : RefIs Z w v L) (hn : L.length ≤ 5864062014805) (hlen : ∀ x ∈ L, x.1.length ≤ 35184372087808) (ha : RdI w A key) :
    Calls Try.prog 38 #[.agg #[v], .slice A key.length cap] w (GetRP w L key) := by
  obtain ⟨Av, cv, rfl⟩ := h.form
  obtain ⟨w0, hw0⟩ : ∃ w0, w0 = w.alloc (.cells #[.slice Av L.length cv] 27) := ⟨_, rfl⟩
  have hb0 : Below w.heap.size w w0 := by rw [hw0]; exact (Below.refl _ _).alloc (Nat.le_refl _) _
  have hbx : Boxed w0 w.heap.size 27 (.slice Av L.length cv) := by rw [hw0]; exact heap_alloc_eq _ _
  have hfind := Lib.hid (rfind_i w0 Z _ L A cap key (h.new hb0) hn hlen (rdI_below ha hb0))
  have HR := Lib.hid (h.new hb0)
  have hcb := hbx.cell
  have hB0 := Lib.hid hb0
  have hbx' := Lib.hid hbx
  replace hw0 := Lib.hid hw0
  clear ha h hlen hb0 hbx
  go_enter Try.func38, Try.ntmps38
  go_wp2_with fail
  rw [← hw0.out]
  clear hw0
  refine hfind.out.mono ?_
  rintro e w1 ⟨hb1, (⟨j, x, rfl, hx, hf⟩ | ⟨rfl, hf⟩)⟩
  · obtain ⟨g, B, c, rfl, hc1, hc2, -⟩ := (HR.out.new hb1).row hx
    have hcb1 := (boxed_new hbx'.out hb1).cell
    have hB1 := Lib.hid (hB0.out.trans (hb1.mono hB0.out.size))
    have hjl : j < L.length := by
      rcases Nat.lt_or_ge j L.length with h1 | h1
      · exact h1
      · rw [List.getElem?_eq_none h1] at hx; cases hx
    have hfin := Lib.hid (getR_some hf)
    have g0 : (0 : Int) ≤ (j : Int) := by omega
    have g1 : (j : Int) < (L.length : Int) := by omega
    have g2 : decide ((j : Int) < 0) = false := by simp
    have g3 : ¬ (j : Int) < 0 := by omega
    clear hx hf hcb hb1
    go_wp2
    go_ret2
    exact ⟨by rw [hfin.out]; rfl, hB1.out⟩
  · have hfin := Lib.hid (getR_none hf)
    have hB1 := Lib.hid (hB0.out.trans (hb1.mono hB0.out.size))
    clear hf hb1
    go_wp2
    go_ret2
    exact ⟨by rw [hfin.out]; rfl, hB1.out⟩
end Go.Proofs.Ytioflglfnalcaaa

/- TriePlays: the document's Longest. -/
namespace Go.Proofs.Ytioflglfnalcaaa
open Go.RowKit

/-- The best of the first k rows, and where it stands. -/
def BestAt (L : List RowT) (l : List Int) (k : Nat) (bi : Int) (b : Option RowT) : Prop :=
  (L.take k).foldl (lonStep l) none = b ∧ ((bi = -1 ∧ b = none) ∨ ∃ (j : Nat) (x : RowT), bi = (j : Int) ∧ L[j]? = some x ∧ b = some x)
theorem bestAt_next {L : List RowT} {l : List Int} {k : Nat} {x : RowT} (hx : L[k]? = some x) {b : Option RowT} (h : (L.take k).foldl (lonStep l) none = b) : (L.take (k + 1)).foldl (lonStep l) none = lonStep l b x := by
  rw [List.take_add_one, hx]
  simp [List.foldl_append, h]

def LonRP (w : World) (L : List RowT) (l : List Int) (e : Ending) (w' : World) : Prop :=
  e = .returned (.tuple #[.int .i64 (lonVal (lonR L l)).1, .int .i64 ((lonVal (lonR L l)).2.1 : Int), .bool (lonVal (lonR L l)).2.2]) ∧ Below w.heap.size w w'

theorem quiet_add {P : Program} {f : FuncId} {args : Array Value} {w : World} {n x : Nat} {v : Value}
    (h : Calls P f args (w.drewN (n + x)) fun e w' => e = .returned v ∧ ∃ m, w' = (w.drewN (n + x)).drewN m) : Calls P f args (w.drewN (n + x)) fun e w'' => e = .returned v ∧ ∃ m, w'' = w.drewN (n + m) :=
  h.mono fun _ _ ⟨he, m, hm⟩ => ⟨he, x + m, by rw [hm, World.drewN_drewN, Nat.add_assoc]⟩

theorem idx_lt {α : Type} {L : List α} {k : Nat} {x : α} (hx : L[k]? = some x) : k < L.length := by
  rcases Nat.lt_or_ge k L.length with h1 | h1
  · exact h1
  · rw [List.getElem?_eq_none h1] at hx; cases hx

set_option maxHeartbeats 2000000 in
set_option maxRecDepth 100000 in
theorem rlong_i (w : World) (Z : Nat → Prop) (v : Value) (L : List RowT) (A : Option Addr) (cap : Nat) (l : List Int) (h : RefIs Z w v L) (hn : L.length ≤ 5864062014805) (hlen : ∀ x ∈ L, x.1.length ≤ 35184372087808) (ha : RdI w A l) (hcap : l.length ≤ cap) :
    Calls Try.prog 39 #[.agg #[v], .slice A l.length cap] w (LonRP w L l) := by
  obtain ⟨Av, cv, rfl⟩ := h.form
  obtain ⟨w0, hw0⟩ : ∃ w0, w0 = w.alloc (.cells #[.slice Av L.length cv] 27) := ⟨_, rfl⟩
  have hb0 : Below w.heap.size w w0 := by rw [hw0]; exact (Below.refl _ _).alloc (Nat.le_refl _) _
  have hbx : Boxed w0 w.heap.size 27 (.slice Av L.length cv) := by rw [hw0]; exact heap_alloc_eq _ _
  have Ha := Lib.hid (rdI_below ha hb0)
  have HR := Lib.hid (h.new hb0)
  have Hlen := Lib.hid hlen
  have hcb := hbx.cell
  have hB0 := Lib.hid hb0
  replace hw0 := Lib.hid hw0
  clear ha h hlen hb0 hbx
  go_enter Try.func39, Try.ntmps39
  go_wp2_with fail
  rw [← hw0.out]
  clear hw0
  go_loopw [7, 8] (fun v i wr => ∃ (k n : Nat) (bi : Int) (b : Option RowT), k ≤ L.length ∧ i = .int .i64 k ∧ v = .int .i64 bi ∧ Hid (BestAt L l k bi b) ∧ wr = w0.drewN n) (fun _ i _ => L.length - (intOf i).toNat)
  case atStart => exact ⟨0, 0, -1, none, by omega, rfl, rfl, ⟨rfl, .inl ⟨rfl, rfl⟩⟩, rfl⟩
  case round =>
    obtain ⟨k, n, bi, b, hk, rfl, rfl, hB, rfl⟩ := hrel
    by_cases hlt : k < L.length
    · obtain ⟨x, hx⟩ : ∃ x, L[k]? = some x := ⟨L[k], by simp [hlt]⟩
      obtain ⟨g, B, c, rfl, hc1, hc2, hrd, hxc, -⟩ := HR.out.row hx
      have hxl := Hlen.out x (List.mem_of_getElem? hx)
      have hnx := bestAt_next hx hB.out.1
      have hbeg : Hid (∀ m, Calls Try.prog 57 #[.slice A l.length cap, .slice B x.1.length c] (w0.drewN m) fun e w' => e = .returned (.bool (begB x.1 l)) ∧ ∃ n', w' = (w0.drewN m).drewN n') := Lib.hid fun m =>
        begins_i (w0.drewN m) A B cap c l x.1 (by omega) Ha.out hrd.rd hcap
      have g0 : (0 : Int) ≤ (k : Int) := by omega
      have g1 : (k : Int) < (L.length : Int) := by omega
      cases hbb : begB x.1 l with
      | false =>
        have H1 : Hid (BestAt L l (k + 1) bi b) := ⟨by rw [hnx]; simp [lonStep, hbb], hB.out.2⟩
        rw [hbb] at hbeg
        clear hnx hrd hx hbb hB
        generalize x.1.length = xl at *
        go_wp2
        go_quiet ((go_at_call 57; exact quiet_add (hbeg.out _)))
        go_wp2
        go_roundw
        case rel => exact ⟨k + 1, _, bi, b, by omega, by go_num, rfl, H1, by first | rfl | exact World.drewN_drewN _ _ _⟩
        case measure => simp [intOf]; omega
      | true =>
        rw [hbb] at hbeg
        rcases hB.out.2 with ⟨rfl, rfl⟩ | ⟨j, y, rfl, hy, rfl⟩
        · have H1 : Hid (BestAt L l (k + 1) (k : Int) (some x)) := ⟨by rw [hnx]; simp [lonStep, hbb, better], .inr ⟨k, x, rfl, hx, rfl⟩⟩
          clear hnx hrd hx hbb hB
          generalize x.1.length = xl at *
          go_wp2
          go_quiet ((go_at_call 57; exact quiet_add (hbeg.out _)))
          go_wp2
          go_roundw
          case rel => exact ⟨k + 1, _, _, some x, by omega, by go_num, rfl, H1, by first | rfl | exact World.drewN_drewN _ _ _⟩
          case measure => simp [intOf]; omega
        · obtain ⟨g', B', c', e', hd1, hd2, hrd', hyc, -⟩ := HR.out.row hy
          injection e' with e'
          injection e' with e'
          subst e'
          have hyl := Hlen.out y (List.mem_of_getElem? hy)
          have hjl := idx_lt hy
          have j0 : (0 : Int) ≤ (j : Int) := by omega
          have j1 : (j : Int) < (L.length : Int) := by omega
          have j2 : decide ((j : Int) < 0) = false := by simp
          have j3 : ¬ (j : Int) < 0 := by omega
          by_cases hyx : y.1.length < x.1.length
          · have H1 : Hid (BestAt L l (k + 1) (k : Int) (some x)) := ⟨by rw [hnx]; simp [lonStep, hbb, better, hyx], .inr ⟨k, x, rfl, hx, rfl⟩⟩
            have k1 : decide ((y.1.length : Int) < (x.1.length : Int)) = true := by simp; omega
            clear hnx hrd hrd' hx hy hbb hB
            generalize x.1.length = xl at *
            generalize y.1.length = yl at *
            go_wp2
            go_quiet ((go_at_call 57; exact quiet_add (hbeg.out _)))
            go_wp2
            go_roundw
            case rel => exact ⟨k + 1, _, _, some x, by omega, by go_num, rfl, H1, by first | rfl | exact World.drewN_drewN _ _ _⟩
            case measure => simp [intOf]; omega
          · have H1 : Hid (BestAt L l (k + 1) (j : Int) (some y)) := ⟨by rw [hnx]; simp [lonStep, hbb, better, hyx], .inr ⟨j, y, rfl, hy, rfl⟩⟩
            have k1 : decide ((y.1.length : Int) < (x.1.length : Int)) = false := by simp; omega
            clear hnx hrd hrd' hx hy hbb hB
            generalize x.1.length = xl at *
            generalize y.1.length = yl at *
            go_wp2
            go_quiet ((go_at_call 57; exact quiet_add (hbeg.out _)))
            go_wp2
            go_roundw
            case rel => exact ⟨k + 1, _, _, some y, by omega, by go_num, rfl, H1, by first | rfl | exact World.drewN_drewN _ _ _⟩
            case measure => simp [intOf]; omega
    · have e : k = L.length := by omega
      subst e
      obtain ⟨h1, h2⟩ := hB.out
      rw [List.take_length] at h1
      rcases h2 with ⟨rfl, rfl⟩ | ⟨j, y, rfl, hy, rfl⟩
      · have hfin : Hid (lonR L l = none) := Lib.hid h1
        clear h1 hB
        go_wp2
        go_ret3
        exact ⟨by rw [hfin.out]; rfl, below_drewN hB0.out _⟩
      · have hfin : Hid (lonR L l = some y) := Lib.hid h1
        obtain ⟨g', B', c', rfl, hd1, hd2, hrd', hyc, -⟩ := HR.out.row hy
        have hjl := idx_lt hy
        have j0 : (0 : Int) ≤ (j : Int) := by omega
        have j1 : (j : Int) < (L.length : Int) := by omega
        have j2 : decide ((j : Int) < 0) = false := by simp
        have j3 : ¬ (j : Int) < 0 := by omega
        clear h1 hB hrd' hy
        go_wp2
        go_quiet (fail)
        go_wp2
        go_ret3
        exact ⟨by rw [hfin.out]; rfl, below_drewN (below_drewN hB0.out _) _⟩
end Go.Proofs.Ytioflglfnalcaaa

/- TriePlays: the document's Below, Take, Put. -/
namespace Go.Proofs.Ytioflglfnalcaaa
open Go.RowKit

theorem info83 : (Try.prog.info? 83).map (fun i => (i.zero, i.size, i.bytes)) = some (some (.agg #[.slice none 0 0, .int .i64 0]), 2, 32) := by kernel_rfl

theorem flat_snoc {Z : Nat → Prop} {w : World} {flat : List Value} {L : List RowT} (h : FlatIs Z w flat L) (hl : flat.length = L.length * 2) {x : RowT} {A : Option Addr} {cap : Nat} (hr : RdT w A x.1) (hz : ∀ ad, A = some ad → x.1 ≠ [] → Z ad.block) (hc : x.1.length ≤ cap) :
    FlatIs Z w (flat ++ [.slice A x.1.length cap, .int .i64 x.2]) (L ++ [x]) := fun i y hy => by
  rcases Nat.lt_or_ge i L.length with hlt | hge
  · rw [List.getElem?_append_left hlt] at hy
    obtain ⟨A', c', h1, h2, h3⟩ := h i y hy
    exact ⟨A', c', by rw [List.getElem?_append_left (by omega)]; exact h1, by rw [List.getElem?_append_left (by omega)]; exact h2, h3⟩
  · have hi : i = L.length := by
      have := idx_lt hy
      simp at this
      omega
    subst hi
    have e : y = x := by simpa using hy.symm
    subst e
    refine ⟨A, cap, ?_, ?_, hr, hz, hc⟩
    · rw [List.getElem?_append_right (by omega)]; simp [hl]
    · rw [List.getElem?_append_right (by omega)]; simp [hl]

/-- What an append of one row comes to. -/
def AppP (Z : Nat → Prop) (B : Nat) (wr : World) (L : List RowT) (v' : Value) (w' : World) : Prop :=
  (∃ flat, w'.ownsRow B 83 2 v' L.length flat ∧ FlatIs Z w' flat L) ∧ Below B wr w'
theorem app_row {Z : Nat → Prop} {B : Nat} {wr : World} {v : Value} {L : List RowT} {flat : List Value} (ho : wr.ownsRow B 83 2 v L.length flat) (hf : FlatIs Z wr flat L) (hB : B ≤ wr.heap.size) {x : RowT} {A : Option Addr} {cap : Nat}
    (hr : RdT wr A x.1) (hz : ∀ ad, A = some ad → x.1 ≠ [] → Z ad.block) (hc : x.1.length ≤ cap) (hn : L.length ≤ 2600000000000) :
    ∃ v' w', (Builtin.append_ #[25, 25] 25 #[v, .slice (some ⟨wr.heap.size, 0, none⟩) 1 1]).run Try.prog (wr.alloc (.cells #[.slice A x.1.length cap, .int .i64 x.2] 83)) = .ok v' w' ∧ AppP Z B wr (L ++ [x]) v' w' := by
  obtain ⟨i0, hi, hz0, hz1, hz2⟩ := info_parts info83
  obtain ⟨v', w', hrun, hown, hgrow, _⟩ := run_append_own (P := Try.prog) (wr.alloc (.cells #[.slice A x.1.length cap, .int .i64 x.2] 83)) B 25 25 83 i0 (.agg #[.slice none 0 0, .int .i64 0]) 2 32 Try.underlying25 hi hz0 hz1 hz2 rfl (by decide) _ _ _ (ho.alloc _) ⟨wr.heap.size, 0, none⟩ 1 1 [.slice A x.1.length cap, .int .i64 x.2]
    rfl (World.news_of_block (cs := #[.slice A x.1.length cap, .int .i64 x.2]) (heap_alloc_eq wr _)) (by simp [Value.oneCell']) (by unfold maxLen; omega) (by omega) (by simp; omega)
  refine ⟨v', w', hrun, ⟨flat ++ [.slice A x.1.length cap, .int .i64 x.2], by simpa using hown, ?_⟩, ?_⟩
  · have h1 := (flat_snoc hf ho.1 hr hz hc).frame ((Fr.refl Nob wr).alloc (.cells #[.slice A x.1.length cap, .int .i64 x.2] 83)) fun _ _ _ _ h => h.elim
    refine h1.frame (Fr.grown (S := fun j => v.ownBlock = some j) (Fr.refl _ _) hgrow fun k e => .inl e) fun j c t f hS hj ht => ?_
    rcases ho.2 with ⟨rfl, _⟩ | ⟨g, cap', cur, rfl, hg, hh, _⟩
    · cases hS
    · have e : g = j := by simpa [Value.ownBlock] using hS
      subst e
      rw [heap_alloc_old2 hh] at hj
      injection hj with hj
      injection hj with _ hj
      rw [← hj] at ht; cases ht
  · exact ((Below.refl _ wr).alloc hB _).grown hgrow (by simp; omega) fun k e => (ho.lt k e).1

/-- A list of rows, got since w. -/
def NewRef (Z : Nat → Prop) (w : World) (L : List RowT) (e : Ending) (w' : World) : Prop := ∃ v, e = .returned v ∧ RefIs (fun j => Z j ∨ w.heap.size ≤ j) w' v L ∧ Below w.heap.size w w'

theorem filter_next {α : Type} {L : List α} {k : Nat} {x : α} (p : α → Bool) (hx : L[k]? = some x) : (L.take (k + 1)).filter p = if p x = true then (L.take k).filter p ++ [x] else (L.take k).filter p := by
  rw [List.take_add_one, hx, List.filter_append]
  cases h : p x <;> simp [h]
theorem filter_le {α : Type} (L : List α) (p : α → Bool) (k : Nat) : ((L.take k).filter p).length ≤ L.length := by
  refine Nat.le_trans (List.length_filter_le _ _) ?_
  simp only [List.length_take]
  omega

set_option maxHeartbeats 1000000 in
set_option maxRecDepth 100000 in
theorem rbelow_i (w : World) (Z : Nat → Prop) (v : Value) (L : List RowT) (A : Option Addr) (cap : Nat) (key : List Int) (h : RefIs Z w v L) (hn : L.length ≤ 2600000000000) (hlen : ∀ x ∈ L, x.1.length ≤ 35184372087808) (ha : RdI w A key) (hkl : key.length ≤ 35184372087808) :
    Calls Try.prog 58 #[.agg #[v], .slice A key.length cap] w (NewRef Z w (belowR L key)) := by
  obtain ⟨Av, cv, rfl⟩ := h.form
  obtain ⟨w0, hw0⟩ : ∃ w0, w0 = w.alloc (.cells #[.slice Av L.length cv] 27) := ⟨_, rfl⟩
  have hb0 : Below w.heap.size w w0 := by rw [hw0]; exact (Below.refl _ _).alloc (Nat.le_refl _) _
  have hbx : Boxed w0 w.heap.size 27 (.slice Av L.length cv) := by rw [hw0]; exact heap_alloc_eq _ _
  have Ha := Lib.hid (rdI_below ha hb0)
  have HR := Lib.hid (h.new hb0)
  have Hlen := Lib.hid hlen
  have Hbx := Lib.hid hbx
  have hB0 := Lib.hid hb0
  replace hw0 := Lib.hid hw0
  clear ha h hlen hb0 hbx
  go_enter Try.func58, Try.ntmps58
  go_wp2_with fail
  rw [← hw0.out]
  clear hw0
  go_loopw [5, 6] (fun v i wr => ∃ k : Nat, k ≤ L.length ∧ i = .int .i64 k ∧ Hid (AppP Z w0.heap.size w0 ((L.take k).filter fun x => begB key x.1) v wr)) (fun _ i _ => L.length - (intOf i).toNat)
  case atStart => exact ⟨0, by omega, rfl, Lib.hid ⟨⟨[], World.ownsRow_nil _ _ _ _, fun i x h => by simp at h⟩, Below.refl _ _⟩⟩
  case round =>
    obtain ⟨k, hk, rfl, hP⟩ := hrel
    obtain ⟨⟨flat, ho, hfl⟩, hB⟩ := hP.out
    have hcb := (boxed_new Hbx.out hB).cell
    by_cases hlt : k < L.length
    · obtain ⟨x, hx⟩ : ∃ x, L[k]? = some x := ⟨L[k], by simp [hlt]⟩
      have HR1 := HR.out.new hB
      obtain ⟨g, B, c, rfl, hc1, hc2, hrd, hxc, hxz⟩ := HR1.row hx
      have hxl := Hlen.out x (List.mem_of_getElem? hx)
      have hbeg := Lib.hid (begins_i wr B A c cap x.1 key (by omega) hrd.rd (rdI_below Ha.out hB) hxc)
      have hnx := filter_next (fun x : RowT => begB key x.1) hx
      have hll := filter_le L (fun x : RowT => begB key x.1) k
      have g0 : (0 : Int) ≤ (k : Int) := by omega
      have g1 : (k : Int) < (L.length : Int) := by omega
      cases hbb : begB key x.1 with
      | false =>
        have H1 : Hid (∀ m, AppP Z w0.heap.size w0 ((L.take (k + 1)).filter fun x => begB key x.1) u5 (wr.drewN m)) := Lib.hid fun m => by
          rw [hnx, if_neg (by simp [hbb])]
          exact ⟨⟨flat, ho, hfl⟩, below_drewN hB m⟩
        rw [hbb] at hbeg
        clear hnx hrd hx hbb hP ho hfl HR1 hB
        generalize x.1.length = xl at *
        go_wp2_with fail
        refine hbeg.out.mono ?_
        rintro e _ ⟨rfl, m, rfl⟩
        go_wp2
        go_roundw
        case rel => exact ⟨k + 1, by omega, by go_num, H1.out _⟩
        case measure => simp [intOf]; omega
      | true =>
        rw [hbb] at hbeg
        have happ : Hid (∀ m, ∃ v' w', (Builtin.append_ #[25, 25] 25 #[u5, .slice (some ⟨wr.heap.size, 0, none⟩) 1 1]).run Try.prog ((wr.drewN m).alloc (.cells #[.slice B x.1.length c, .int .i64 x.2] 83)) = .ok v' w' ∧ Hid (AppP Z w0.heap.size w0 ((L.take (k + 1)).filter fun x => begB key x.1) v' w')) := Lib.hid fun m => by
          obtain ⟨v', w', h1, h2, h3⟩ := app_row (wr := wr.drewN m) ho hfl (by exact hB.size) (x := x) hrd hxz hxc (by omega)
          refine ⟨v', w', h1, Lib.hid ?_⟩
          rw [hnx, if_pos hbb]
          exact ⟨h2, (below_drewN hB m).trans h3⟩
        clear hnx hrd hx hbb hP ho hfl HR1 hB
        generalize x.1.length = xl at *
        go_wp2_with fail
        refine hbeg.out.mono ?_
        rintro e _ ⟨rfl, m, rfl⟩
        obtain ⟨v', w', hrun, H1⟩ := happ.out m
        replace hrun := Lib.hid hrun
        clear happ
        go_wp2_with (at_builtin; refine wpList_append_run rfl (.tmp 22) (.tmp 28) 25 rfl rfl rfl hrun.out ?_)
        go_roundw
        case rel => exact ⟨k + 1, by omega, by go_num, H1⟩
        case measure => simp [intOf]; omega
    · have e : k = L.length := by omega
      subst e
      have hfin : Hid (NewRef Z w (belowR L key) (.returned u5) wr) := by
        rw [List.take_length] at ho hfl
        exact Lib.hid ⟨u5, rfl, ⟨flat, World.ownsRow.mono ho (Nat.zero_le _), hfl.mono fun _ _ h => .inl h, fun g e => .inr (by have := (ho.lt g e).1; have := hB0.out.size; omega)⟩, hB0.out.trans (hB.mono hB0.out.size)⟩
      obtain ⟨Av', cv', hform⟩ : ∃ A c, u5 = .slice A (((L.take L.length).filter fun x => begB key x.1).length) c := by
        rcases ho.2 with ⟨h1, h2⟩ | ⟨g, c, cur, h1, _⟩
        · exact ⟨none, 0, by rw [h1, h2]⟩
        · exact ⟨_, c, h1⟩
      clear hP ho hfl hB
      go_wp2
      go_ret
      exact hfin.out
end Go.Proofs.Ytioflglfnalcaaa

/- TriePlays: the document's Take, Put. -/
namespace Go.Proofs.Ytioflglfnalcaaa
open Go.RowKit

/-- A trie of the document's and a yes or no, got since w. -/
def NewRef2 (Z : Nat → Prop) (w : World) (L : List RowT) (b : Bool) (e : Ending) (w' : World) : Prop := ∃ v, e = .returned (.tuple #[.agg #[v], .bool b]) ∧ RefIs (fun j => Z j ∨ w.heap.size ≤ j) w' v L ∧ Below w.heap.size w w'

theorem own_form {w : World} {B : Nat} {e : TypeId} {s n : Nat} {v : Value} {xs : List Value} (h : w.ownsRow B e s v n xs) : ∃ A c, v = .slice A n c := by
  rcases h.2 with ⟨h1, h2⟩ | ⟨g, c, cur, h1, _⟩
  · exact ⟨none, 0, by rw [h1, h2]⟩
  · exact ⟨_, c, h1⟩

theorem results_cell_tmp {fn : Func} {i j : Nat} (hfn : fn.results = #[.cell i 27, .tmp j]) {tmps : Array Value} {b0 : Nat} {W : World} {v u : Value} (ht : tmps.getD i undef = .pointer (some ⟨b0, 0, none⟩)) (hu : tmps.getD j undef = u) (hW : W.cell? ⟨b0, 0, none⟩ = some v) : (results fn tmps).run Try.prog W = .ok (.tuple #[.agg #[v], u]) W := by
  have ht' : tmps[i]?.getD undef = .pointer (some ⟨b0, 0, none⟩) := by rw [← Array.getD_eq_getD_getElem?]; exact ht
  have hu' : tmps[j]?.getD undef = u := by rw [← Array.getD_eq_getD_getElem?]; exact hu
  simp [results, hfn, ht', hu', hW, go_sem]

set_option maxHeartbeats 1000000 in
set_option maxRecDepth 100000 in
theorem rtake_i (w : World) (Z : Nat → Prop) (v : Value) (L : List RowT) (A : Option Addr) (cap : Nat) (key : List Int) (h : RefIs Z w v L) (hn : L.length ≤ 2600000000000) (hlen : ∀ x ∈ L, x.1.length ≤ 35184372087808) (ha : RdI w A key) :
    Calls Try.prog 40 #[.agg #[v], .slice A key.length cap] w (NewRef2 Z w (takeR L key) (hasR L key)) := by
  obtain ⟨Av, cv, rfl⟩ := h.form
  obtain ⟨w0, hw0⟩ : ∃ w0, w0 = (w.alloc (.cells #[.slice Av L.length cv] 27)).alloc (.cells #[.slice none 0 0] 27) := ⟨_, rfl⟩
  have hb0 : Below w.heap.size w w0 := by rw [hw0]; exact ((Below.refl _ _).alloc (Nat.le_refl _) _).alloc (by simp) _
  have hbx : Boxed w0 w.heap.size 27 (.slice Av L.length cv) := by rw [hw0]; exact heap_alloc_old2 (heap_alloc_eq w (.cells #[.slice Av L.length cv] 27))
  have hbr : Boxed w0 (w.heap.size + 1) 27 (.slice none 0 0) := by
    have := heap_alloc_eq (w.alloc (.cells #[.slice Av L.length cv] 27)) (.cells #[.slice none 0 0] 27)
    rw [hw0]; simpa [Boxed] using this
  have Ha := Lib.hid (rdI_below ha hb0)
  have HR := Lib.hid (h.new hb0)
  have Hlen := Lib.hid hlen
  have Hbx := Lib.hid hbx
  have Hbr := Lib.hid hbr
  have hB0 := Lib.hid hb0
  have hsz : w0.heap.size = w.heap.size + 2 := by rw [hw0]; simp
  replace hw0 := Lib.hid hw0
  clear ha h hlen hb0 hbx hbr
  go_enter Try.func40, Try.ntmps40
  go_wp2_with fail
  rw [← hw0.out]
  clear hw0
  go_loopw [6, 7] (fun v i wr => ∃ k : Nat, k ≤ L.length ∧ i = .int .i64 k ∧ Hid (AppP Z w0.heap.size w0 ((L.take k).filter fun x => !decide (x.1 = key)) v wr)) (fun _ i _ => L.length - (intOf i).toNat)
  case atStart => exact ⟨0, by omega, rfl, Lib.hid ⟨⟨[], World.ownsRow_nil _ _ _ _, fun i x h => by simp at h⟩, Below.refl _ _⟩⟩
  case round =>
    obtain ⟨k, hk, rfl, hP⟩ := hrel
    obtain ⟨⟨flat, ho, hfl⟩, hB⟩ := hP.out
    have hcb := (boxed_new Hbx.out hB).cell
    by_cases hlt : k < L.length
    · obtain ⟨x, hx⟩ : ∃ x, L[k]? = some x := ⟨L[k], by simp [hlt]⟩
      have HR1 := HR.out.new hB
      obtain ⟨g, B, c, rfl, hc1, hc2, hrd, hxc, hxz⟩ := HR1.row hx
      have hxl := Hlen.out x (List.mem_of_getElem? hx)
      have hbeg := Lib.hid (same_runes wr B A c cap x.1 key (by omega) hrd.rd (rdI_below Ha.out hB))
      have hnx := filter_next (fun x : RowT => !decide (x.1 = key)) hx
      have hll := filter_le L (fun x : RowT => !decide (x.1 = key)) k
      have g0 : (0 : Int) ≤ (k : Int) := by omega
      have g1 : (k : Int) < (L.length : Int) := by omega
      cases hbb : decide (x.1 = key) with
      | true =>
        have H1 : Hid (∀ m, AppP Z w0.heap.size w0 ((L.take (k + 1)).filter fun x => !decide (x.1 = key)) u6 (wr.drewN m)) := Lib.hid fun m => by
          rw [hnx, if_neg (by simp only [hbb]; decide)]
          exact ⟨⟨flat, ho, hfl⟩, below_drewN hB m⟩
        rw [hbb] at hbeg
        clear hnx hrd hx hbb hP ho hfl HR1 hB
        generalize x.1.length = xl at *
        go_wp2_with fail
        refine hbeg.out.mono ?_
        rintro e _ ⟨rfl, m, rfl⟩
        go_wp2
        go_roundw
        case rel => exact ⟨k + 1, by omega, by go_num, H1.out _⟩
        case measure => simp [intOf]; omega
      | false =>
        rw [hbb] at hbeg
        have happ : Hid (∀ m, ∃ v' w', (Builtin.append_ #[25, 25] 25 #[u6, .slice (some ⟨wr.heap.size, 0, none⟩) 1 1]).run Try.prog ((wr.drewN m).alloc (.cells #[.slice B x.1.length c, .int .i64 x.2] 83)) = .ok v' w' ∧ Hid (AppP Z w0.heap.size w0 ((L.take (k + 1)).filter fun x => !decide (x.1 = key)) v' w')) := Lib.hid fun m => by
          obtain ⟨v', w', h1, h2, h3⟩ := app_row (wr := wr.drewN m) ho hfl (by exact hB.size) (x := x) hrd hxz hxc (by omega)
          refine ⟨v', w', h1, Lib.hid ?_⟩
          rw [hnx, if_pos (by simp only [hbb]; decide)]
          exact ⟨h2, (below_drewN hB m).trans h3⟩
        clear hnx hrd hx hbb hP ho hfl HR1 hB
        generalize x.1.length = xl at *
        go_wp2_with fail
        refine hbeg.out.mono ?_
        rintro e _ ⟨rfl, m, rfl⟩
        obtain ⟨v', w', hrun, H1⟩ := happ.out m
        replace hrun := Lib.hid hrun
        clear happ
        go_wp2_with (at_builtin; refine wpList_append_run rfl (.tmp 24) (.tmp 30) 25 rfl rfl rfl hrun.out ?_)
        go_roundw
        case rel => exact ⟨k + 1, by omega, by go_num, H1⟩
        case measure => simp [intOf]; omega
    · have e : k = L.length := by omega
      subst e
      rw [List.take_length] at ho hfl
      obtain ⟨A6, c6, rfl⟩ := own_form ho
      have hbr1 := boxed_new Hbr.out hB
      have hF : Fr (fun j => j = w.heap.size + 1) wr (wr.drew.setCell ⟨w.heap.size + 1, 0, none⟩ (.slice A6 (takeR L key).length c6)) := ((Fr.refl (fun j => j = w.heap.size + 1) wr).drew).setCell (p := ⟨w.heap.size + 1, 0, none⟩) (.inl rfl) _
      have hfin : Hid (NewRef2 Z w (takeR L key) (hasR L key) (.returned (.tuple #[.agg #[.slice A6 (takeR L key).length c6], .bool (hasR L key)])) (wr.drew.setCell ⟨w.heap.size + 1, 0, none⟩ (.slice A6 (takeR L key).length c6))) := by
        refine Lib.hid ⟨_, rfl, ?_, ?_⟩
        · refine RefIs.frame (w := wr) ⟨flat, World.ownsRow.mono ho (Nat.zero_le _), hfl.mono fun _ _ h => .inl h, fun g e => .inr (by have := (ho.lt g e).1; have := hB0.out.size; omega)⟩ hF fun j c t f hS hj => ?_
          subst hS
          rw [hbr1] at hj
          injection hj with hj
          injection hj with _ hj
          rw [← hj]
          intro h
          rcases h with h | h <;> cases h
        · exact (hB0.out.trans (hB.mono hB0.out.size)).trans (hF.below (hB0.out.trans (hB.mono hB0.out.size)).size fun j hj => by omega)
      have hcr : (wr.drew.setCell ⟨w.heap.size + 1, 0, none⟩ (.slice A6 (takeR L key).length c6)).cell? ⟨w.heap.size + 1, 0, none⟩ = some (.slice A6 (takeR L key).length c6) := (hbr1.set _).cell
      rw [← takeR_len L key] at hfin
      have ccr := hbr1.cell
      have fcr := hbr1.frozen
      have e6 : ((L.filter fun x => !decide (x.1 = key)).length) = (takeR L key).length := rfl
      rw [e6]
      replace hcr := Lib.hid hcr
      clear hP ho hfl hB hbr1 hF e6
      go_wp2
      go_region
      go_wp2
      refine bodyPost_ret (results_cell_tmp rfl rfl rfl hcr.out) rfl ?_
      rw [takeR_len L key] at hfin ⊢
      exact hfin.out
end Go.Proofs.Ytioflglfnalcaaa

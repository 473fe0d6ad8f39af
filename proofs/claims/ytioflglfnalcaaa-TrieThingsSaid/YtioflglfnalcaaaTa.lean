/- TrieThings: the memory of its things, the steps of a caller of Trie[[]int], the plain law. -/
import Derived.Test.YtioflglfnalcaaaVv
import Derived.Test.YtioflglfnalcaaaLo
namespace Go.Proofs.Ytioflglfnalcaaa
open Go.RowKit

theorem St.frS {L : Lay} {w0 w w' : World} {t : Nat} {f : List Int → Option Value} {ps : List (List Int)} {D m : Nat} {T : AT} {S : Nat → Prop} (h : St L w0 t f ps D m T w) (k : Fr S w w') (h1 : ∀ j, T.own j → ¬ S j) (h2 : ∀ j, S j → w0.heap.size ≤ j) :
    St L w0 t f ps D m T w' :=
  { h with rep := h.rep.frame k h1, below := h.below.trans (k.below h.below.size h2) }

/-- A thing: a list of one number, in block g. -/
def thing (g : Nat) : Value := .slice (some ⟨g, 0, none⟩) 1 1

def putsG (rows : List (List Int)) (G : Nat → Nat) : Nat → List Int → Option Value
  | 0 => fun _ => none
  | n + 1 => fun q => if q = rows.getD n [] then some (thing (G n)) else putsG rows G n q

theorem putsG_congr {rows : List (List Int)} {G G' : Nat → Nat} : ∀ {n : Nat}, (∀ i, i < n → G i = G' i) → putsG rows G n = putsG rows G' n
  | 0, _ => rfl
  | n + 1, h => by
    funext q
    simp only [putsG]
    rw [h n (by omega), putsG_congr (n := n) fun i hi => h i (by omega)]
theorem putsG_last {rows : List (List Int)} {G : Nat → Nat} {q : List Int} {L : Nat} : ∀ {n : Nat}, L < n → rows.getD L [] = q → (∀ j, L < j → j < n → rows.getD j [] ≠ q) → putsG rows G n q = some (thing (G L))
  | 0, h, _, _ => absurd h (Nat.not_lt_zero _)
  | n + 1, h, hq, hl => by
    simp only [putsG]
    rcases (by omega : L = n ∨ L < n) with rfl | h1
    · rw [if_pos hq.symm]
    · rw [if_neg (fun e => hl n h1 (by omega) e.symm)]
      exact putsG_last h1 hq fun j h2 h3 => hl j h2 (by omega)

structure ThM (w : World) (bth n : Nat) (G : Nat → Nat) (k : Nat) (T : AT) (wr : World) : Prop where
  blk : ∃ c : Array Value, wr.heap[bth]? = some (.cells c 64 (0, 0)) ∧ c.size = n ∧ ∀ i, i < k → c[i]? = some (thing (G i))
  th : ∀ i, i < k → wr.heap[G i]? = some (.cells #[.int .i64 (i : Int)] 3 (0, 0))
  ge : ∀ i, i < k → w.heap.size ≤ G i
  geb : w.heap.size ≤ bth
  ne : ∀ i, i < k → G i ≠ bth
  inj : ∀ i j, i < k → j < k → G i = G j → i = j
  own : ∀ i, i < k → ¬ T.own (G i)
  ownb : ¬ T.own bth

section
variable {w wr wr' : World} {bth n k : Nat} {G : Nat → Nat} {T T' : AT}
theorem ThM.bth_lt (h : ThM w bth n G k T wr) : bth < wr.heap.size := by
  obtain ⟨c, h1, _⟩ := h.blk
  exact lt_of_heap h1
theorem ThM.put (h : ThM w bth n G k T wr) (hf : Fr T.own wr wr') (ho : ∀ j, T'.own j → T.own j ∨ wr.heap.size ≤ j) : ThM w bth n G k T' wr' where
  blk := by
    obtain ⟨c, h1, h2⟩ := h.blk
    exact ⟨c, hf.heap h1 h.ownb, h2⟩
  th := fun i hi => hf.heap (h.th i hi) (h.own i hi)
  ge := h.ge
  geb := h.geb
  ne := h.ne
  inj := h.inj
  own := fun i hi hj => by
    rcases ho _ hj with h1 | h1
    · exact h.own i hi h1
    · have := lt_of_heap (h.th i hi); omega
  ownb := fun hj => by
    rcases ho _ hj with h1 | h1
    · exact h.ownb h1
    · have := h.bth_lt; omega
theorem ThM.new (h : ThM w bth n G k T wr) (hb : Below wr.heap.size wr wr') : ThM w bth n G k T wr' :=
  h.put (Fr.of_below hb _) fun _ hj => .inl hj

theorem ThM.step (h : ThM w bth n G k T wr) (hk : k < n) (hw : w.heap.size ≤ wr.heap.size) (hT : ∀ j, T.own j → j < wr.heap.size) :
    ThM w bth n (fun i => if i = k then wr.heap.size else G i) (k + 1) T ((wr.setCell ⟨bth, k, none⟩ (thing wr.heap.size)).alloc (.cells #[.int .i64 (k : Int)] 3)) := by
  obtain ⟨c, h1, h2, h3⟩ := h.blk
  have hlt := h.bth_lt
  have hs : (wr.setCell ⟨bth, k, none⟩ (thing wr.heap.size)).heap.size = wr.heap.size := by simp
  refine ⟨⟨c.setIfInBounds k (thing wr.heap.size), ?_, by simpa using h2, fun i hi => ?_⟩, fun i hi => ?_, fun i hi => ?_, h.geb, fun i hi => ?_, fun i j hi hj e => ?_, fun i hi => ?_, h.ownb⟩
  · rw [heap_alloc_lt (by omega), heap_set_same _ h1]
  · by_cases e : i = k
    · subst e
      rw [if_pos rfl]
      simp [h2, hk]
    · rw [if_neg e, Array.getElem?_setIfInBounds_ne (fun h => e h.symm)]
      exact h3 i (by omega)
  · by_cases e : i = k
    · subst e
      rw [if_pos rfl]
      have := heap_alloc_eq (wr.setCell ⟨bth, i, none⟩ (thing wr.heap.size)) (.cells #[.int .i64 (i : Int)] 3)
      rw [hs] at this
      exact this
    · rw [if_neg e]
      have h4 := h.th i (by omega)
      have := lt_of_heap h4
      rw [heap_alloc_lt (by omega), heap_set_ne _ (by have := h.ne i (by omega); omega)]
      exact h4
  · split
    · exact hw
    · exact h.ge i (by omega)
  · split
    · omega
    · exact h.ne i (by omega)
  · by_cases e1 : i = k
    · by_cases e2 : j = k
      · omega
      · simp only [if_pos e1, if_neg e2] at e
        have := lt_of_heap (h.th j (by omega)); omega
    · by_cases e2 : j = k
      · simp only [if_neg e1, if_pos e2] at e
        have := lt_of_heap (h.th i (by omega)); omega
      · simp only [if_neg e1, if_neg e2] at e
        exact h.inj i j (by omega) (by omega) e
  · split
    · intro hj
      have := hT _ hj; omega
    · exact h.own i (by omega)

/-- A thing written over and back. -/
theorem ThM.back (h : ThM w bth n G k T wr) {L : Nat} (hL : L < k) (x : Int) : ThM w bth n G k T ((wr.setCell ⟨G L, 0, none⟩ (.int .i64 x)).setCell ⟨G L, 0, none⟩ (.int .i64 (L : Int))) := by
  have hg := h.th L hL
  have e1 : ((wr.setCell ⟨G L, 0, none⟩ (.int .i64 x)).setCell ⟨G L, 0, none⟩ (.int .i64 (L : Int))).heap[G L]? = some (.cells #[.int .i64 (L : Int)] 3 (0, 0)) := by
    have h1 := heap_set_same (o := 0) (.int .i64 x) hg
    have h2 := heap_set_same (o := 0) (.int .i64 (L : Int)) h1
    rw [h2]; rfl
  have e2 : ∀ j, j ≠ G L → ((wr.setCell ⟨G L, 0, none⟩ (.int .i64 x)).setCell ⟨G L, 0, none⟩ (.int .i64 (L : Int))).heap[j]? = wr.heap[j]? := fun j hj => by
    rw [heap_set_ne _ (by simpa using hj), heap_set_ne _ (by simpa using hj)]
  obtain ⟨c, h1, h2, h3⟩ := h.blk
  refine ⟨⟨c, by rw [e2 _ (fun e => h.ne L hL e.symm)]; exact h1, h2, h3⟩, fun i hi => ?_, h.ge, h.geb, h.ne, h.inj, h.own, h.ownb⟩
  by_cases e : i = L
  · subst e; exact e1
  · rw [e2 _ (fun e' => e (h.inj i L hi hL e'))]
    exact h.th i hi
end

variable {w0 w : World} {t : Nat} {f : List Int → Option Value} {ps : List (List Int)} {D m : Nat} {T : AT}

def PutQ (w0 : World) (t : Nat) (b : Bool) (f : List Int → Option Value) (ps : List (List Int)) (D m : Nat) (T : AT) (w : World) (e : Ending) (w' : World) : Prop :=
  e = .returned (.bool b) ∧ ∃ T', St Lv w0 t f ps D m T' w' ∧ Fr T.own w w' ∧ ∀ j, T'.own j → T.own j ∨ w.heap.size ≤ j
theorem stq_put (S : St Lv w0 t f ps D m T w) (A : Option Addr) (cap : Nat) (zs : List Int) (vA : Option Addr) (vn vc : Nat) (hlen : zs.length ≤ 140737488351232) (hr : RdI w A zs) (ha : ∀ ad, A = some ad → zs ≠ [] → ¬ T.own ad.block) (hps : ps.length ≤ 140737488351232)
    {b : Bool} (hb : (f zs).isSome = b) {ps' : List (List Int)} (hp : (if b = true then ps else zs :: ps) = ps') {D' : Nat} (hD : D ≤ D') (hz : zs.length ≤ D') :
    Calls Try.prog 27 #[ptr t, .slice A zs.length cap, .slice vA vn vc] w (PutQ w0 t b (fun q => if q = zs then some (.slice vA vn vc) else f q) ps' D' (m + 1) T w) := by
  refine (put_v w t T A cap zs vA vn vc S.rep hlen hr ha (by rw [S.hps]; exact hps)).mono ?_
  rintro e w' ⟨h1, T', h2, h3, h4, h5, h6, h7⟩
  rw [S.hf] at h1 h3 h4
  rw [S.hps] at h4
  rw [hb] at h1 h4
  refine ⟨h1, T', ⟨h2, h3, h4.trans hp, h7 D' m ⟨fun q hq => Nat.le_trans (S.small.1 q hq) hD, S.small.2⟩ hz, fun j hj => ?_, S.below.trans (h5.below S.below.size fun j hj => S.own j hj)⟩, h5, h6⟩
  rcases h6 j hj with h | h
  · exact S.own j h
  · have := S.below.size; omega
theorem stq_take (S : St Lv w0 t f ps D m T w) (A : Option Addr) (cap : Nat) (zs : List Int) (hlen : zs.length ≤ 140737488351232) (hr : RdI w A zs) (hps : ps.length ≤ 140737488351232)
    {b : Bool} (hb : (f zs).isSome = b) {ps' : List (List Int)} (hp : ps.erase zs = ps') :
    Calls Try.prog 30 #[ptr t, .slice A zs.length cap] w (PutQ w0 t b (fun q => if q = zs then none else f q) ps' D m T w) := by
  refine (take_v w t T A cap zs S.rep hlen hr (by rw [S.hps]; exact hps)).mono ?_
  rintro e w' ⟨h1, h2, h3⟩
  rw [S.hf, hb] at h1
  exact ⟨h1, _, ⟨h2, by rw [← S.hf]; rfl, by rw [← hp, ← S.hps]; rfl, S.small, S.own, S.below.trans (h3.below S.below.size fun j hj => S.own j hj)⟩, h3, fun j hj => .inl hj⟩
end Go.Proofs.Ytioflglfnalcaaa

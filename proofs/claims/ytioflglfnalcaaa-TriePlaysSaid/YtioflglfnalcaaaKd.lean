/- TrieKnown: the second trie's rows, and what All lists of it. -/
import Derived.Test.YtioflglfnalcaaaKb
import Derived.Test.YtioflglfnalcaaaLo
namespace Go.Proofs.Ytioflglfnalcaaa
open Go.RowKit

def tow (w : World) (os : List Obj) : World := os.foldl World.alloc w
theorem tow_size (os : List Obj) : ∀ w, (tow w os).heap.size = w.heap.size + os.length := by
  induction os with
  | nil => intro w; rfl
  | cons o os ih =>
    intro w
    have := ih (w.alloc o)
    simp only [tow, List.foldl_cons, List.length_cons] at this ⊢
    rw [this, World.size_alloc]; omega
theorem tow_below (os : List Obj) : ∀ w, Below w.heap.size w (tow w os) := by
  induction os with
  | nil => intro w; exact Below.refl _ _
  | cons o os ih =>
    intro w
    have h := ih (w.alloc o)
    exact ((Below.refl _ w).alloc (Nat.le_refl _) o).trans (h.mono (by simp))
theorem tow_get (os : List Obj) : ∀ (w : World) (i : Nat), i < os.length → (tow w os).heap[w.heap.size + i]? = os[i]? := by
  induction os with
  | nil => intro w i hi; simp at hi
  | cons o os ih =>
    intro w i hi
    cases i with
    | zero =>
      have h := (tow_below os (w.alloc o)).block w.heap.size (by simp)
      have h2 := heap_alloc_eq w o
      simp only [tow, List.foldl_cons, Nat.add_zero] at h ⊢
      rw [h, h2]; rfl
    | succ i =>
      have h := ih (w.alloc o) i (by simpa using hi)
      rw [World.size_alloc] at h
      simp only [tow, List.foldl_cons, List.getElem?_cons_succ] at h ⊢
      rw [← h]; congr 1; omega

def rowsU : List (List Int) := [[0], [-1], [1114240, 0], [1114240], [2147483647], [-2147483648], [-1, -2147483648]]
def wantU : List (List Int) := [[-2147483648], [-1], [-1, -2147483648], [0], [1114240], [1114240, 0], [2147483647]]
def sl (b n : Nat) : Value := .slice (some ⟨b, 0, none⟩) n n
def objsU (s : Nat) : List Obj := [.cells #[.int .i32 0] 21, .cells #[.int .i32 (-1)] 21, .cells #[.int .i32 1114240, .int .i32 0] 21, .cells #[.int .i32 1114240] 21, .cells #[.int .i32 2147483647] 21, .cells #[.int .i32 (-2147483648)] 21,
  .cells #[.int .i32 (-1), .int .i32 (-2147483648)] 21, .cells #[sl s 1, sl (s + 1) 1, sl (s + 2) 2, sl (s + 3) 1, sl (s + 4) 1, sl (s + 5) 1, sl (s + 6) 2] 36,
  .cells #[.int .i32 (-2147483648)] 21, .cells #[.int .i32 (-1)] 21, .cells #[.int .i32 (-1), .int .i32 (-2147483648)] 21, .cells #[.int .i32 0] 21, .cells #[.int .i32 1114240] 21, .cells #[.int .i32 1114240, .int .i32 0] 21, .cells #[.int .i32 2147483647] 21,
  .cells #[sl (s + 8) 1, sl (s + 9) 1, sl (s + 10) 2, sl (s + 11) 1, sl (s + 12) 1, sl (s + 13) 2, sl (s + 14) 1] 36, .cells #[sl (s + 15) 7] 43]

def U17 (s : Nat) (W : World) : Prop := ∀ i, i < 17 → W.heap[s + i]? = (objsU s)[i]?
theorem U17.tow (w : World) : U17 w.heap.size (tow w (objsU w.heap.size)) := fun i hi => tow_get _ w i hi
theorem U17.keep {s : Nat} {S : Nat → Prop} {W W' : World} (h : U17 s W) (hf : Fr S W W') (hs : ∀ j, S j → j < s ∨ s + 17 ≤ j) : U17 s W' := fun i hi => by
  have h1 := h i hi
  have hlt : i < (objsU s).length := hi
  rw [List.getElem?_eq_getElem hlt] at h1 ⊢
  exact hf.heap h1 fun hS => by have := hs _ hS; omega

theorem row_one {W : World} {b : Nat} {x : Int} (h : W.heap[b]? = some (.cells #[.int .i32 x] 21)) : RdI W (some ⟨b, 0, none⟩) [x] := rdI_of_cells (zs := [x]) (rest := #[]) h
theorem row_two {W : World} {b : Nat} {x y : Int} (h : W.heap[b]? = some (.cells #[.int .i32 x, .int .i32 y] 21)) : RdI W (some ⟨b, 0, none⟩) [x, y] := rdI_of_cells (zs := [x, y]) (rest := #[]) h

theorem U17.rows_at {s : Nat} {W : World} (h : U17 s W) {i : Nat} (hi : i < 7) : W.cell? ⟨s + 7, i, none⟩ = some (.slice (some ⟨s + i, 0, none⟩) (rowsU.getD i []).length (rowsU.getD i []).length) ∧ RdI W (some ⟨s + i, 0, none⟩) (rowsU.getD i []) ∧ (rowsU.getD i []).length ≤ 2 := by
  have h7 := h 7 (by omega)
  rcases (by omega : i = 0 ∨ i = 1 ∨ i = 2 ∨ i = 3 ∨ i = 4 ∨ i = 5 ∨ i = 6) with rfl | rfl | rfl | rfl | rfl | rfl | rfl
  · exact ⟨by rw [cell_of_row _ _ _ _ _ _ h7]; rfl, row_one (h 0 (by omega)), by decide⟩
  · exact ⟨by rw [cell_of_row _ _ _ _ _ _ h7]; rfl, row_one (h 1 (by omega)), by decide⟩
  · exact ⟨by rw [cell_of_row _ _ _ _ _ _ h7]; rfl, row_two (h 2 (by omega)), by decide⟩
  · exact ⟨by rw [cell_of_row _ _ _ _ _ _ h7]; rfl, row_one (h 3 (by omega)), by decide⟩
  · exact ⟨by rw [cell_of_row _ _ _ _ _ _ h7]; rfl, row_one (h 4 (by omega)), by decide⟩
  · exact ⟨by rw [cell_of_row _ _ _ _ _ _ h7]; rfl, row_one (h 5 (by omega)), by decide⟩
  · exact ⟨by rw [cell_of_row _ _ _ _ _ _ h7]; rfl, row_two (h 6 (by omega)), by decide⟩
theorem U17.want_at {s : Nat} {W : World} (h : U17 s W) {i : Nat} (hi : i < 7) : W.cell? ⟨s + 15, i, none⟩ = some (.slice (some ⟨s + 8 + i, 0, none⟩) (wantU.getD i []).length (wantU.getD i []).length) ∧ RdI W (some ⟨s + 8 + i, 0, none⟩) (wantU.getD i []) ∧ (wantU.getD i []).length ≤ 2 := by
  have h7 := h 15 (by omega)
  rcases (by omega : i = 0 ∨ i = 1 ∨ i = 2 ∨ i = 3 ∨ i = 4 ∨ i = 5 ∨ i = 6) with rfl | rfl | rfl | rfl | rfl | rfl | rfl
  · exact ⟨by rw [cell_of_row _ _ _ _ _ _ h7]; rfl, row_one (h 8 (by omega)), by decide⟩
  · exact ⟨by rw [cell_of_row _ _ _ _ _ _ h7]; rfl, row_one (h 9 (by omega)), by decide⟩
  · exact ⟨by rw [cell_of_row _ _ _ _ _ _ h7]; rfl, row_two (h 10 (by omega)), by decide⟩
  · exact ⟨by rw [cell_of_row _ _ _ _ _ _ h7]; rfl, row_one (h 11 (by omega)), by decide⟩
  · exact ⟨by rw [cell_of_row _ _ _ _ _ _ h7]; rfl, row_one (h 12 (by omega)), by decide⟩
  · exact ⟨by rw [cell_of_row _ _ _ _ _ _ h7]; rfl, row_two (h 13 (by omega)), by decide⟩
  · exact ⟨by rw [cell_of_row _ _ _ _ _ _ h7]; rfl, row_one (h 14 (by omega)), by decide⟩
theorem U17.box {s : Nat} {W : World} (h : U17 s W) : Boxed W (s + 16) 43 (.slice (some ⟨s + 15, 0, none⟩) 7 7) := h 16 (by omega)

def resU : List (List Int × Value) := [([-2147483648], .int .i64 5), ([-1], .int .i64 1), ([-1, -2147483648], .int .i64 6), ([0], .int .i64 0), ([1114240], .int .i64 3), ([1114240, 0], .int .i64 2), ([2147483647], .int .i64 4)]
theorem resU_want : resU.map (·.1) = wantU := rfl
theorem putsU_iff (q : List Int) (v : Value) : (q, v) ∈ resU ↔ putsF rowsU 7 q = some v := by
  simp only [resU, putsF, rowsU, List.mem_cons, Prod.mk.injEq, List.not_mem_nil, or_false, List.getD, List.getElem?_cons_succ, List.getElem?_cons_zero, Option.getD_some]
  constructor
  · rintro (⟨rfl, rfl⟩ | ⟨rfl, rfl⟩ | ⟨rfl, rfl⟩ | ⟨rfl, rfl⟩ | ⟨rfl, rfl⟩ | ⟨rfl, rfl⟩ | ⟨rfl, rfl⟩) <;> simp
  · intro h
    by_cases h0 : q = [0]
    · subst h0; simp at h; simp [h]
    by_cases h1 : q = [-1]
    · subst h1; simp at h; simp [h]
    by_cases h2 : q = [1114240, 0]
    · subst h2; simp at h; simp [h]
    by_cases h3 : q = [1114240]
    · subst h3; simp at h; simp [h]
    by_cases h4 : q = [2147483647]
    · subst h4; simp at h; simp [h]
    by_cases h5 : q = [-2147483648]
    · subst h5; simp at h; simp [h]
    by_cases h6 : q = [-1, -2147483648]
    · subst h6; simp at h; simp [h]
    simp [h0, h1, h2, h3, h4, h5, h6] at h
theorem resU_sorted : resU.Pairwise fun x y => lx x.1 y.1 := by
  simp [resU, lx]
theorem u_eq {T : AT} {t D : Nat} (ok : T.Ok t) (hd : ∀ q, (T.N q).isSome → q.length < D) (hf : T.f = putsF rowsU 7) : belowRes T D [] = resU :=
  below_eq ok hd [] resU resU_sorted fun q v => by
    rw [putsU_iff, hf]
    simp
theorem putsF_int {rows : List (List Int)} {n : Nat} : ∀ p v, putsF rows n p = some v → ∃ x, v = .int .i64 x := fun p v h => by
  obtain ⟨i, _, h2, _⟩ := putsF_some h
  exact ⟨_, h2⟩
theorem St.weak {L : Lay} {w0 w : World} {t : Nat} {f : List Int → Option Value} {ps : List (List Int)} {D m D' m' : Nat} {T : AT} (h : St L w0 t f ps D m T w) (hD : D ≤ D') (hm : m ≤ m') : St L w0 t f ps D' m' T w :=
  { h with small := ⟨fun q hq => Nat.le_trans (h.small.1 q hq) hD, fun q => Nat.le_trans (h.small.2 q) hm⟩ }

theorem ownsRow_frB {S : Nat → Prop} {w w' : World} {B : Nat} {e : TypeId} {v : Value} {n : Nat} {xs : List Value} (h : w.ownsRow B e 1 v n xs) (hf : Fr S w w') (hs : ∀ k, S k → k < B ∨ w.heap.size ≤ k) : w'.ownsRow B e 1 v n xs := by
  refine ⟨h.1, ?_⟩
  rcases h.2 with h2 | ⟨g, cap, cur, hv, hg, hh, r⟩
  · exact .inl h2
  · exact .inr ⟨g, cap, cur, hv, hg, hf.heap hh (fun hS => by have := hs g hS; have := lt_of_heap hh; omega), r⟩
theorem Coll.frB {S : Nat → Prop} {tr ti ei : TypeId} {B : Nat} {w w' : World} {br bt : Nat} {rv tv : Value} {rvals vals : List Value} {rows : List (List Int)} (h : Coll tr ti ei B w br bt rv tv rvals vals rows) (hf : Fr S w w')
    (hs : ∀ k, S k → k < B ∨ w.heap.size ≤ k) (h21 : ∀ k, S k → ∀ c t f, w.heap[k]? = some (.cells c t f) → t ≠ 21) : Coll tr ti ei B w' br bt rv tv rvals vals rows where
  hb := h.hb
  hb2 := h.hb2
  box := hf.heap h.box fun hS => by have := hs _ hS; have := h.hb; have := h.box.lt; omega
  own := ownsRow_frB h.own hf hs
  are := ⟨h.are.1, fun i hi => by
    obtain ⟨A, cap, h1, h2, h3⟩ := h.are.2 i hi
    exact ⟨A, cap, h1, RdT.frame h2 hf (fun b c f hb hS => h21 b hS c _ f hb rfl), h3⟩⟩
  tbox := hf.heap h.tbox fun hS => by have := hs _ hS; have := h.hb2; have := h.tbox.lt; omega
  town := ownsRow_frB h.town hf hs

/-- What holds while the second trie is filled. -/
def URel (w40 : World) (u s k : Nat) (wr : World) : Prop := ∃ ps T, ps.length ≤ k ∧ St Li w40 u (putsF rowsU k) ps 2 k T wr ∧ U17 s wr ∧ ∀ j, T.own j → j < s ∨ s + 17 ≤ j
end Go.Proofs.Ytioflglfnalcaaa

/- What Below's walk collects: the rows and the things, in two slices that grow; which blocks it may write. No program in sight. -/
import Derived.RangeFuncBox
import Derived.Test.YtioflglfnalcaaaRep
namespace Go.Proofs.Ytioflglfnalcaaa
open Go.RowKit

/-- Blocks that the walk may write: from B on, of the types of the two slices and of their boxes. -/
def SB (ts : List TypeId) (B : Nat) (w : World) (k : Nat) : Prop := B ≤ k ∧ ∃ c t f, w.heap[k]? = some (.cells c t f) ∧ t ∈ ts
def FB (ts : List TypeId) (B : Nat) (w w' : World) : Prop := Fr (SB ts B w) w w'

section
variable {ts : List TypeId} {B : Nat} {a w w1 w2 : World}
theorem FB.refl : FB ts B w w := Fr.refl _ _
theorem FB.trans (h : FB ts B a w) (k : FB ts B w w1) : FB ts B a w1 := Fr.trans h k fun i hi hs => by
  rcases Classical.em (SB ts B a i) with h1 | h1
  · exact h1
  · obtain ⟨h2, c, t, f, hc, ht⟩ := hs
    exact ⟨h2, c, t, f, by rw [← Fr.block h i hi h1]; exact hc, ht⟩
theorem FB.step (h : FB ts B a w) {S : Nat → Prop} (k : Fr S w w1) (hs : ∀ i, i < w.heap.size → S i → SB ts B w i) : FB ts B a w1 := h.trans (Fr.mono k hs)
theorem FB.drewN (h : FB ts B a w) (n : Nat) : FB ts B a (w.drewN n) := Fr.drewN h n
theorem FB.drew (h : FB ts B a w) : FB ts B a w.drew := Fr.drew h
theorem FB.alloc (h : FB ts B a w) (o : Obj) : FB ts B a (w.alloc o) := Fr.alloc h o
theorem FB.of_below (h : Below a.heap.size a w) : FB ts B a w := Fr.of_below h _
theorem FB.new (h : FB ts B a w) (k : Below w.heap.size w w1) : FB ts B a w1 := h.trans (FB.of_below k)
theorem FB.below (h : FB ts B a w) (hB : B ≤ a.heap.size) : Below B a w := Fr.below h hB fun _ hk => hk.1
theorem FB.heap (h : FB ts B a w) {k : Nat} {o : Obj} (ho : a.heap[k]? = some o) (hn : k < B ∨ ∀ c t f, o = .cells c t f → t ∉ ts) : w.heap[k]? = some o :=
  Fr.heap h ho (fun hs => by
    obtain ⟨h2, c, t, f, hc, ht⟩ := hs
    rcases hn with hn | hn
    · omega
    · rw [ho] at hc; injection hc with hc; exact hn c t f hc ht)
theorem FB.rdT (h : FB ts B a w) {A : Option Addr} {zs : List Int} (hr : RdT a A zs) (h21 : 21 ∉ ts) : RdT w A zs := RdT.frame hr h fun b c f hb hs => by
  obtain ⟨_, c', t, f', hc, ht⟩ := hs
  rw [hb] at hc; injection hc with hc; injection hc with _ h2; subst h2; exact h21 ht
theorem FB.rep {L : Lay} {t : Nat} {T : AT} (h : FB ts B a w) (R : Rep L a t T) (ho : ∀ k, T.own k → k < B) : Rep L w t T := R.frame h fun k hk hs => by
  have := ho k hk
  have := hs.1
  omega
end

/-- Slice values that read as rows. -/
def RowsAre (w : World) (rvals : List Value) (rows : List (List Int)) : Prop :=
  rvals.length = rows.length ∧ ∀ i, i < rows.length → ∃ A cap, rvals[i]? = some (.slice A (rows.getD i []).length cap) ∧ RdT w A (rows.getD i []) ∧ (A = none → cap = 0)

theorem RowsAre.frame {ts : List TypeId} {B : Nat} {w w' : World} {rvals : List Value} {rows : List (List Int)} (h : RowsAre w rvals rows) (hf : FB ts B w w') (h21 : 21 ∉ ts) : RowsAre w' rvals rows :=
  ⟨h.1, fun i hi => by
    obtain ⟨A, cap, h1, h2, h3⟩ := h.2 i hi
    exact ⟨A, cap, h1, hf.rdT h2 h21, h3⟩⟩
theorem RowsAre.snoc {w : World} {rvals : List Value} {rows : List (List Int)} {zs : List Int} {A : Option Addr} {cap : Nat} (h : RowsAre w rvals rows) (hz : RdT w A zs) (hn : A = none → cap = 0) :
    RowsAre w (rvals ++ [.slice A zs.length cap]) (rows ++ [zs]) := by
  refine ⟨by simp [h.1], fun i hi => ?_⟩
  rcases Nat.lt_or_ge i rows.length with hlt | hge
  · obtain ⟨A', cap', h1, h2, h3⟩ := h.2 i hlt
    have e : (rows ++ [zs]).getD i [] = rows.getD i [] := by simp [List.getD, List.getElem?_append_left hlt]
    rw [e]
    exact ⟨A', cap', by rw [List.getElem?_append_left (by rw [h.1]; exact hlt)]; exact h1, h2, h3⟩
  · have hi' : i = rows.length := by simp at hi; omega
    subst hi'
    have e : (rows ++ [zs]).getD rows.length [] = zs := by simp [List.getD]
    rw [e]
    exact ⟨A, cap, by rw [← h.1]; simp, hz, hn⟩

/-- What has been collected: tb, ti the types of the slice of rows, of the slice of things; ei the things' type. -/
structure Coll (tr ti ei : TypeId) (B : Nat) (w : World) (br bt : Nat) (rv tv : Value) (rvals vals : List Value) (rows : List (List Int)) : Prop where
  hb : B ≤ br
  hb2 : B ≤ bt
  box : Boxed w br tr rv
  own : w.ownsRow B 36 1 rv rows.length rvals
  are : RowsAre w rvals rows
  tbox : Boxed w bt ti tv
  town : w.ownsRow B ei 1 tv vals.length vals

end Go.Proofs.Ytioflglfnalcaaa
namespace Go.Proofs.Ytioflglfnalcaaa
open Go.RowKit

theorem ownsRow_new {w w' : World} {B : Nat} {e : TypeId} {v : Value} {n : Nat} {xs : List Value} (h : w.ownsRow B e 1 v n xs) (k : Below w.heap.size w w') : w'.ownsRow B e 1 v n xs := by
  refine ⟨h.1, ?_⟩
  rcases h.2 with h2 | ⟨g, cap, cur, hv, hg, hh, r⟩
  · exact .inl h2
  · exact .inr ⟨g, cap, cur, hv, hg, (k.block g (lt_of_heap hh)).trans hh, r⟩
theorem boxed_new {w w' : World} {b : Nat} {t : TypeId} {v : Value} (h : Boxed w b t v) (k : Below w.heap.size w w') : Boxed w' b t v := (k.block b h.lt).trans h
theorem own_ne_own {w : World} {B : Nat} {e e' : TypeId} {v v' : Value} {n n' : Nat} {xs xs' : List Value} (h : w.ownsRow B e 1 v n xs) (h' : w.ownsRow B e' 1 v' n' xs') (he : e ≠ e') : v = .slice none 0 0 ∨ v.ownBlock ≠ v'.ownBlock := by
  rcases h.2 with ⟨hv, _⟩ | ⟨g, cap, cur, hv, hg, hh, r⟩
  · exact .inl hv
  · right
    rcases h'.2 with ⟨hv', _⟩ | ⟨g', cap', cur', hv', hg', hh', r'⟩
    · rw [hv, hv']; simp [Value.ownBlock]
    · rw [hv, hv']
      simp only [Value.ownBlock]
      intro e1
      injection e1 with e1
      subst e1
      rw [hh] at hh'
      injection hh' with h1
      injection h1 with _ h2
      exact he h2
theorem own_lt {w : World} {B : Nat} {e : TypeId} {v : Value} {n g : Nat} {xs : List Value} (h : w.ownsRow B e 1 v n xs) (hg : v.ownBlock = some g) : g < w.heap.size ∧ B ≤ g ∧ ∃ c f, w.heap[g]? = some (.cells c e f) := by
  rcases h.2 with ⟨hv, _⟩ | ⟨g', cap, cur, hv, hg', hh, r⟩
  · rw [hv] at hg; cases hg
  · rw [hv] at hg
    simp only [Value.ownBlock] at hg
    injection hg with hg
    subst hg
    exact ⟨lt_of_heap hh, hg', _, _, hh⟩

/-- The state of 'rows, things = append(rows, slices.Clone(row)), append(things, at.v)', the operations of L being over. -/
structure R1 (tr ti ei : TypeId) (B : Nat) (w0 : World) (br bt b : Nat) (rv tv : Value) (rvals vals : List Value) (n : Nat) (p : List Int) (v rowv : Value) (L : Nat → Bool) (w : World)
    (x13 x14 x15 x16 x17 x18 x19 x20 x21 x22 x23 x24 : Value) : Prop where
  fb : FB [tr, ti, 36, ei] B w0 w
  bx : L 12 = false → Boxed w br tr rv
  bx' : L 12 = true → Boxed w br tr x17
  tx : L 13 = false → Boxed w bt ti tv
  tx' : L 13 = true → Boxed w bt ti x24
  ow : L 4 = false → w.ownsRow B 36 1 rv n rvals
  tw : L 11 = false → w.ownsRow B ei 1 tv vals.length vals
  d4 : L 4 = true → L 3 = true
  d11 : L 11 = true → L 10 = true
  d12 : L 12 = true → L 4 = true ∧ L 0 = true
  d13 : L 13 = true → L 11 = true ∧ L 5 = true
  f0 : L 0 = true → x13 = rv
  f1 : L 1 = true → x14 = rowv
  f2 : L 2 = true → ∃ A cap, x15 = .slice A p.length cap ∧ RdT w A p ∧ (A = none → cap = 0)
  f3 : L 3 = true → ∃ A cap bk, x16 = .slice (some ⟨bk, 0, none⟩) 1 1 ∧ w.heap[bk]? = some (.cells #[.slice A p.length cap] 36 (0, 0)) ∧ rv.ownBlock ≠ some bk ∧ RdT w A p ∧ (A = none → cap = 0)
  f4 : L 4 = true → ∃ A cap, w.ownsRow B 36 1 x17 (n + 1) (rvals ++ [.slice A p.length cap]) ∧ RdT w A p ∧ (A = none → cap = 0)
  f5 : L 5 = true → x18 = tv
  f6 : L 6 = true → x19 = ptr b
  f7 : L 7 = true → x20 = .pointer (some ⟨b, 0, none⟩)
  f8 : L 8 = true → x21 = .pointer (some ⟨b, 1, none⟩)
  f9 : L 9 = true → x22 = v
  f10 : L 10 = true → ∃ bk, x23 = .slice (some ⟨bk, 0, none⟩) 1 1 ∧ w.heap[bk]? = some (.cells #[v] ei (0, 0)) ∧ tv.ownBlock ≠ some bk
  f11 : L 11 = true → w.ownsRow B ei 1 x24 (vals.length + 1) (vals ++ [v])

section
variable {tr ti ei : TypeId} {B : Nat} {w0 : World} {br bt b : Nat} {rv tv : Value} {rvals vals : List Value} {n : Nat} {p : List Int} {v rowv : Value} {L : Nat → Bool} {w w1 : World}
  {x13 x14 x15 x16 x17 x18 x19 x20 x21 x22 x23 x24 : Value}
theorem RdT.new {A : Option Addr} {zs : List Int} (h : RdT w A zs) (k : Below w.heap.size w w1) : RdT w1 A zs := RdT.frame h (Fr.of_below k Nob) fun _ _ _ _ h => h

theorem R1.new (h : R1 tr ti ei B w0 br bt b rv tv rvals vals n p v rowv L w x13 x14 x15 x16 x17 x18 x19 x20 x21 x22 x23 x24) (k : Below w.heap.size w w1) :
    R1 tr ti ei B w0 br bt b rv tv rvals vals n p v rowv L w1 x13 x14 x15 x16 x17 x18 x19 x20 x21 x22 x23 x24 where
  fb := h.fb.new k
  bx := fun e => boxed_new (h.bx e) k
  bx' := fun e => boxed_new (h.bx' e) k
  tx := fun e => boxed_new (h.tx e) k
  tx' := fun e => boxed_new (h.tx' e) k
  ow := fun e => ownsRow_new (h.ow e) k
  tw := fun e => ownsRow_new (h.tw e) k
  d4 := h.d4
  d11 := h.d11
  d12 := h.d12
  d13 := h.d13
  f0 := h.f0
  f1 := h.f1
  f2 := fun e => by
    obtain ⟨A, cap, h1, h2, h3⟩ := h.f2 e
    exact ⟨A, cap, h1, h2.new k, h3⟩
  f3 := fun e => by
    obtain ⟨A, cap, bk, h1, h2, h3, h4, h5⟩ := h.f3 e
    exact ⟨A, cap, bk, h1, (k.block bk (lt_of_heap h2)).trans h2, h3, h4.new k, h5⟩
  f4 := fun e => by
    obtain ⟨A, cap, h1, h2, h3⟩ := h.f4 e
    exact ⟨A, cap, ownsRow_new h1 k, h2.new k, h3⟩
  f5 := h.f5
  f6 := h.f6
  f7 := h.f7
  f8 := h.f8
  f9 := h.f9
  f10 := fun e => by
    obtain ⟨bk, h1, h2, h3⟩ := h.f10 e
    exact ⟨bk, h1, (k.block bk (lt_of_heap h2)).trans h2, h3⟩
  f11 := fun e => ownsRow_new (h.f11 e) k

theorem own_kept {w w' : World} {e e' : TypeId} {u u' : Value} {m m' : Nat} {xs xs' : List Value} (h : w.ownsRow B e 1 u m xs) (h' : w.ownsRow B e' 1 u' m' xs') (he : e ≠ e') (hg : w.grownBy w' u'.ownBlock) : w'.ownsRow B e 1 u m xs :=
  h.kept hg ((own_ne_own h h' he).imp (fun e1 => by rw [e1]; rfl) id)
theorem fb_grown {ts : List TypeId} {w w' : World} {e : TypeId} {u : Value} {m : Nat} {xs : List Value} (h : w.ownsRow B e 1 u m xs) (he : e ∈ ts) (hg : w.grownBy w' u.ownBlock) : FB ts B w w' :=
  Fr.grown (Fr.refl _ _) hg fun k e1 => by
    obtain ⟨_, h2, c, f, h3⟩ := own_lt h e1
    exact .inl ⟨h2, c, e, f, h3, he⟩
theorem blk_kept {w w' : World} {e e' : TypeId} {u : Value} {m g : Nat} {xs : List Value} {c : Array Value} {f : Nat × Nat} (h : w.ownsRow B e 1 u m xs) (hg : w.grownBy w' u.ownBlock) (hb : w.heap[g]? = some (.cells c e' f)) (he : e ≠ e') : w'.heap[g]? = some (.cells c e' f) :=
  (hg.block g (lt_of_heap hb) (fun e1 => by
    obtain ⟨_, _, c', f', h3⟩ := own_lt h e1.symm
    rw [hb] at h3; injection h3 with h3; injection h3 with _ h3; exact he h3.symm)).trans hb

/-- The rows' append. -/
theorem R1.app1 {w' : World} {v' x : Value} {A : Option Addr} {cap : Nat} (h : R1 tr ti ei B w0 br bt b rv tv rvals vals n p v rowv L w x13 x14 x15 x16 x17 x18 x19 x20 x21 x22 x23 x24) (hL : L 4 = false) (h3L : L 3 = true)
    (hx : x = .slice A p.length cap) (hA : RdT w A p) (hn : A = none → cap = 0) (ho : w'.ownsRow B 36 1 v' (n + 1) (rvals ++ [x])) (hg : w.grownBy w' rv.ownBlock)
    (h1 : tr ≠ 36) (h2 : ti ≠ 36) (h3 : ei ≠ 36) (h21 : 21 ∉ [tr, ti, 36, ei]) :
    R1 tr ti ei B w0 br bt b rv tv rvals vals n p v rowv (fun j => decide (j = 4) || L j) w' x13 x14 x15 x16 v' x18 x19 x20 x21 x22 x23 x24 where
  fb := h.fb.trans (fb_grown (h.ow hL) (by simp) hg)
  bx := fun e => (h.bx e).kept hg ((h.bx e).not_row h1 (h.ow hL))
  bx' := fun e => by
    have := (h.d12 e).1
    rw [hL] at this; cases this
  tx := fun e => (h.tx e).kept hg ((h.tx e).not_row h2 (h.ow hL))
  tx' := fun e => (h.tx' e).kept hg ((h.tx' e).not_row h2 (h.ow hL))
  ow := fun e => by cases e
  tw := fun e => own_kept (h.tw e) (h.ow hL) h3 hg
  d4 := fun _ => h3L
  d11 := h.d11
  d12 := fun e => ⟨rfl, (h.d12 e).2⟩
  d13 := h.d13
  f0 := h.f0
  f1 := h.f1
  f2 := fun e => by
    obtain ⟨A, cap, a1, a2, a3⟩ := h.f2 e
    exact ⟨A, cap, a1, (fb_grown (h.ow hL) (by simp) hg : FB [tr, ti, 36, ei] B w w').rdT a2 h21, a3⟩
  f3 := fun e => by
    obtain ⟨A, cap, bk, a1, a2, a3, a4, a5⟩ := h.f3 e
    exact ⟨A, cap, bk, a1, (hg.block bk (lt_of_heap a2) (fun e1 => a3 e1.symm)).trans a2, a3, (fb_grown (h.ow hL) (by simp) hg : FB [tr, ti, 36, ei] B w w').rdT a4 h21, a5⟩
  f4 := fun _ => ⟨A, cap, by rw [← hx]; exact ho, (fb_grown (h.ow hL) (by simp) hg : FB [tr, ti, 36, ei] B w w').rdT hA h21, hn⟩
  f5 := h.f5
  f6 := h.f6
  f7 := h.f7
  f8 := h.f8
  f9 := h.f9
  f10 := fun e => by
    obtain ⟨bk, a1, a2, a3⟩ := h.f10 e
    exact ⟨bk, a1, blk_kept (h.ow hL) hg a2 h3.symm, a3⟩
  f11 := fun e => own_kept (h.f11 e) (h.ow hL) h3 hg

/-- The things' append. -/
theorem R1.app2 {w' : World} {v' : Value} (h : R1 tr ti ei B w0 br bt b rv tv rvals vals n p v rowv L w x13 x14 x15 x16 x17 x18 x19 x20 x21 x22 x23 x24) (hL : L 11 = false) (h3L : L 10 = true)
    (ho : w'.ownsRow B ei 1 v' (vals.length + 1) (vals ++ [v])) (hg : w.grownBy w' tv.ownBlock)
    (h1 : tr ≠ ei) (h2 : ti ≠ ei) (h3 : ei ≠ 36) (h21 : 21 ∉ [tr, ti, 36, ei]) :
    R1 tr ti ei B w0 br bt b rv tv rvals vals n p v rowv (fun j => decide (j = 11) || L j) w' x13 x14 x15 x16 x17 x18 x19 x20 x21 x22 x23 v' where
  fb := h.fb.trans (fb_grown (h.tw hL) (by simp) hg)
  bx := fun e => (h.bx e).kept hg ((h.bx e).not_row h1 (h.tw hL))
  bx' := fun e => (h.bx' e).kept hg ((h.bx' e).not_row h1 (h.tw hL))
  tx := fun e => (h.tx e).kept hg ((h.tx e).not_row h2 (h.tw hL))
  tx' := fun e => by
    have := (h.d13 e).1
    rw [hL] at this; cases this
  ow := fun e => own_kept (h.ow e) (h.tw hL) h3.symm hg
  tw := fun e => by cases e
  d4 := h.d4
  d11 := fun _ => h3L
  d12 := h.d12
  d13 := fun e => ⟨rfl, (h.d13 e).2⟩
  f0 := h.f0
  f1 := h.f1
  f2 := fun e => by
    obtain ⟨A, cap, a1, a2, a3⟩ := h.f2 e
    exact ⟨A, cap, a1, (fb_grown (h.tw hL) (by simp) hg : FB [tr, ti, 36, ei] B w w').rdT a2 h21, a3⟩
  f3 := fun e => by
    obtain ⟨A, cap, bk, a1, a2, a3, a4, a5⟩ := h.f3 e
    exact ⟨A, cap, bk, a1, blk_kept (h.tw hL) hg a2 h3, a3, (fb_grown (h.tw hL) (by simp) hg : FB [tr, ti, 36, ei] B w w').rdT a4 h21, a5⟩
  f4 := fun e => by
    obtain ⟨A, cap, a1, a2, a3⟩ := h.f4 e
    exact ⟨A, cap, own_kept a1 (h.tw hL) h3.symm hg, (fb_grown (h.tw hL) (by simp) hg : FB [tr, ti, 36, ei] B w w').rdT a2 h21, a3⟩
  f5 := h.f5
  f6 := h.f6
  f7 := h.f7
  f8 := h.f8
  f9 := h.f9
  f10 := fun e => by
    obtain ⟨bk, a1, a2, a3⟩ := h.f10 e
    exact ⟨bk, a1, (hg.block bk (lt_of_heap a2) (fun e1 => a3 e1.symm)).trans a2, a3⟩
  f11 := fun _ => ho

theorem boxed_ne {w : World} {b b' : Nat} {t t' : TypeId} {u u' : Value} (h : Boxed w b t u) (h' : Boxed w b' t' u') (ht : t ≠ t') : b ≠ b' := by
  rintro rfl
  have := h.symm.trans h'
  injection this with this
  injection this with _ this
  exact ht this
theorem fb_store {ts : List TypeId} {w : World} {g : Nat} {t : TypeId} {u : Value} (h : Boxed w g t u) (hB : B ≤ g) (ht : t ∈ ts) (u' : Value) : FB ts B w (w.setCell ⟨g, 0, none⟩ u') :=
  Fr.setCell (Fr.refl _ _) (p := ⟨g, 0, none⟩) (.inl ⟨hB, _, t, _, h, ht⟩) u'
theorem own_store {w : World} {g : Nat} {t e : TypeId} {u u1 : Value} {m : Nat} {xs : List Value} (h : Boxed w g t u) (ho : w.ownsRow B e 1 u1 m xs) (ht : t ≠ e) (u' : Value) : (w.setCell ⟨g, 0, none⟩ u').ownsRow B e 1 u1 m xs :=
  ho.kept (grownBy_setCell' w g u') (.inr fun e1 => (h.not_row ht ho) e1.symm)
theorem blk_store {w : World} {g k : Nat} {t e : TypeId} {u : Value} {c : Array Value} {f : Nat × Nat} (h : Boxed w g t u) (hk : w.heap[k]? = some (.cells c e f)) (ht : t ≠ e) (u' : Value) : (w.setCell ⟨g, 0, none⟩ u').heap[k]? = some (.cells c e f) := by
  rw [heap_set_ne _ (by
    rintro rfl
    have := h.symm.trans hk
    injection this with this
    injection this with _ this
    exact ht this)]
  exact hk

theorem R1.st1 (h : R1 tr ti ei B w0 br bt b rv tv rvals vals n p v rowv L w x13 x14 x15 x16 x17 x18 x19 x20 x21 x22 x23 x24) (hL : L 12 = false) (h4 : L 4 = true ∧ L 0 = true) (hb : B ≤ br)
    (h1 : tr ≠ 36) (h2 : tr ≠ ei) (h3 : tr ≠ ti) (h21 : 21 ∉ [tr, ti, 36, ei]) :
    R1 tr ti ei B w0 br bt b rv tv rvals vals n p v rowv (fun j => decide (j = 12) || L j) (w.setCell ⟨br, 0, none⟩ x17) x13 x14 x15 x16 x17 x18 x19 x20 x21 x22 x23 x24 where
  fb := h.fb.trans (fb_store (h.bx hL) hb (by simp) _)
  bx := fun e => by cases e
  bx' := fun _ => (h.bx hL).set _
  tx := fun e => (h.tx e).kept (grownBy_setCell' w br x17) (fun e1 => boxed_ne (h.bx hL) (h.tx e) h3 (by injection e1 with e1; exact e1.symm))
  tx' := fun e => (h.tx' e).kept (grownBy_setCell' w br x17) (fun e1 => boxed_ne (h.bx hL) (h.tx' e) h3 (by injection e1 with e1; exact e1.symm))
  ow := fun e => own_store (h.bx hL) (h.ow e) h1 _
  tw := fun e => own_store (h.bx hL) (h.tw e) h2 _
  d4 := h.d4
  d11 := h.d11
  d12 := fun _ => h4
  d13 := h.d13
  f0 := h.f0
  f1 := h.f1
  f2 := fun e => by
    obtain ⟨A, cap, a1, a2, a3⟩ := h.f2 e
    exact ⟨A, cap, a1, (fb_store (h.bx hL) hb (by simp) _ : FB [tr, ti, 36, ei] B w _).rdT a2 h21, a3⟩
  f3 := fun e => by
    obtain ⟨A, cap, bk, a1, a2, a3, a4, a5⟩ := h.f3 e
    exact ⟨A, cap, bk, a1, blk_store (h.bx hL) a2 h1 _, a3, (fb_store (h.bx hL) hb (by simp) _ : FB [tr, ti, 36, ei] B w _).rdT a4 h21, a5⟩
  f4 := fun e => by
    obtain ⟨A, cap, a1, a2, a3⟩ := h.f4 e
    exact ⟨A, cap, own_store (h.bx hL) a1 h1 _, (fb_store (h.bx hL) hb (by simp) _ : FB [tr, ti, 36, ei] B w _).rdT a2 h21, a3⟩
  f5 := h.f5
  f6 := h.f6
  f7 := h.f7
  f8 := h.f8
  f9 := h.f9
  f10 := fun e => by
    obtain ⟨bk, a1, a2, a3⟩ := h.f10 e
    exact ⟨bk, a1, blk_store (h.bx hL) a2 h2 _, a3⟩
  f11 := fun e => own_store (h.bx hL) (h.f11 e) h2 _

theorem R1.st2 (h : R1 tr ti ei B w0 br bt b rv tv rvals vals n p v rowv L w x13 x14 x15 x16 x17 x18 x19 x20 x21 x22 x23 x24) (hL : L 13 = false) (h4 : L 11 = true ∧ L 5 = true) (hb : B ≤ bt)
    (h1 : ti ≠ 36) (h2 : ti ≠ ei) (h3 : tr ≠ ti) (h21 : 21 ∉ [tr, ti, 36, ei]) :
    R1 tr ti ei B w0 br bt b rv tv rvals vals n p v rowv (fun j => decide (j = 13) || L j) (w.setCell ⟨bt, 0, none⟩ x24) x13 x14 x15 x16 x17 x18 x19 x20 x21 x22 x23 x24 where
  fb := h.fb.trans (fb_store (h.tx hL) hb (by simp) _)
  tx := fun e => by cases e
  tx' := fun _ => (h.tx hL).set _
  bx := fun e => (h.bx e).kept (grownBy_setCell' w bt x24) (fun e1 => boxed_ne (h.bx e) (h.tx hL) h3 (by injection e1))
  bx' := fun e => (h.bx' e).kept (grownBy_setCell' w bt x24) (fun e1 => boxed_ne (h.bx' e) (h.tx hL) h3 (by injection e1))
  ow := fun e => own_store (h.tx hL) (h.ow e) h1 _
  tw := fun e => own_store (h.tx hL) (h.tw e) h2 _
  d4 := h.d4
  d11 := h.d11
  d12 := h.d12
  d13 := fun _ => h4
  f0 := h.f0
  f1 := h.f1
  f2 := fun e => by
    obtain ⟨A, cap, a1, a2, a3⟩ := h.f2 e
    exact ⟨A, cap, a1, (fb_store (h.tx hL) hb (by simp) _ : FB [tr, ti, 36, ei] B w _).rdT a2 h21, a3⟩
  f3 := fun e => by
    obtain ⟨A, cap, bk, a1, a2, a3, a4, a5⟩ := h.f3 e
    exact ⟨A, cap, bk, a1, blk_store (h.tx hL) a2 h1 _, a3, (fb_store (h.tx hL) hb (by simp) _ : FB [tr, ti, 36, ei] B w _).rdT a4 h21, a5⟩
  f4 := fun e => by
    obtain ⟨A, cap, a1, a2, a3⟩ := h.f4 e
    exact ⟨A, cap, own_store (h.tx hL) a1 h1 _, (fb_store (h.tx hL) hb (by simp) _ : FB [tr, ti, 36, ei] B w _).rdT a2 h21, a3⟩
  f5 := h.f5
  f6 := h.f6
  f7 := h.f7
  f8 := h.f8
  f9 := h.f9
  f10 := fun e => by
    obtain ⟨bk, a1, a2, a3⟩ := h.f10 e
    exact ⟨bk, a1, blk_store (h.tx hL) a2 h2 _, a3⟩
  f11 := fun e => own_store (h.tx hL) (h.f11 e) h2 _
end

theorem RowsAre.new {w w1 : World} {rvals : List Value} {rows : List (List Int)} (h : RowsAre w rvals rows) (k : Below w.heap.size w w1) : RowsAre w1 rvals rows :=
  ⟨h.1, fun i hi => by
    obtain ⟨A, cap, h1, h2, h3⟩ := h.2 i hi
    exact ⟨A, cap, h1, h2.new k, h3⟩⟩
theorem Coll.new {tr ti ei : TypeId} {B : Nat} {w w1 : World} {br bt : Nat} {rv tv : Value} {rvals vals : List Value} {rows : List (List Int)} (h : Coll tr ti ei B w br bt rv tv rvals vals rows) (k : Below w.heap.size w w1) :
    Coll tr ti ei B w1 br bt rv tv rvals vals rows :=
  ⟨h.hb, h.hb2, boxed_new h.box k, ownsRow_new h.own k, h.are.new k, boxed_new h.tbox k, ownsRow_new h.town k⟩
theorem take_flatMap_le {α β : Type} (f : α → List β) : ∀ (l : List α) (k : Nat), ((l.take k).flatMap f).length ≤ (l.flatMap f).length
  | [], k => by simp
  | x :: l, 0 => by simp
  | x :: l, k + 1 => by
    have := take_flatMap_le f l k
    simp only [List.take_succ_cons, List.flatMap_cons, List.length_append]
    omega
end Go.Proofs.Ytioflglfnalcaaa

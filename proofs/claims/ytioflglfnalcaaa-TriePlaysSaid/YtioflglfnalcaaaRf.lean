/- 'for key, v := range t.Below(..)': the rule, with what the iterator knows of each row. -/
import Derived.Test.YtioflglfnalcaaaIt
namespace Go.Proofs.Ytioflglfnalcaaa
open Go.RowKit

/-- The two blocks of the loop's own. -/
def Two (D : Nat) (j : Nat) : Prop := j = D ∨ j = D + 1

def rowPost (D : Nat) (I : World → Prop) (Ix : Code → World → Prop) (W : World) : Exit → Act → World → Prop
  | .normal, _, W' => (∀ j, Two D j → W'.heap[j]? = W.heap[j]?) ∧ I W'
  | .ret, _, W' => (∀ j, Two D j → W'.heap[j]? = W.heap[j]?) ∧ Ix .ret W'
  | .exit id, _, W' => (∀ j, Two D j → W'.heap[j]? = W.heap[j]?) ∧ Ix (.exit id) W'
  | .goto t, _, W' => (∀ j, Two D j → W'.heap[j]? = W.heap[j]?) ∧ Ix (.goto t) W'
  | .panic _, _, _ => False
  | .outgrown, _, _ => False

theorem fr_putObj {S : Nat → Prop} {W : World} {l : Nat} {o o' : Obj} (_h : W.heap[l]? = some o) (hs : S l) : Fr S W (W.putObj l o') :=
  Fr.grown (Fr.refl S W) (grownBy_putObj' W l o') fun k e => by cases e; exact .inl hs

/-- What a round is told. -/
def RowNow (D : Nat) (I : World → Prop) (A : Option Addr) (cap : Nat) (p : List Int) (W : World) : Prop :=
  (∃ W0, I W0 ∧ Fr (Two D) W0 W ∧ D + 2 ≤ W0.heap.size ∧ (∀ ad, A = some ad → W0.heap.size ≤ ad.block ∧ ad.block < W.heap.size) ∧ W.ownsRow W0.heap.size 21 1 (.slice A p.length cap) p.length (p.map enc32)) ∧ RdT W A p ∧ (A = none → cap = 0) ∧ p.length ≤ cap

set_option maxHeartbeats 1000000 in
theorem wp_range_rows {n br bt B : Nat} {rv tv : Value} {rvals : List Value} {res : List (List Int × Value)} {g : Operand} {ps : Array Tmp} {assign body : Code} {Q : Exit → Act → World → Prop} {a : Act} {w : World}
    (hg : a.eval g = .func (.func 48) #[] #[ptr br, ptr bt]) (hps : ps.size = 2) (I : Nat → World → Prop) (Ix : Code → World → Prop)
    (hC : ∀ k W, I k W → Coll 43 64 3 B W br bt rv tv rvals (res.map (·.2)) (res.map (·.1))) (hlen : ∀ x ∈ res, x.1.length ≤ 35184372088832) (hN : res.length ≤ 35184372088832)
    (hI : ∀ k W W', I k W → Fr (Two w.heap.size) W W' → I k W') (hIx : ∀ c W W', Ix c W → Fr (Two w.heap.size) W W' → Ix c W') (h0 : I 0 w)
    (hround : ∀ (l k : Nat) (A : Option Addr) (cap : Nat) (p : List Int) (v : Value) (W W2 : World), res[k]? = some (p, v) → RowNow w.heap.size (I k) A cap p W2 →
      assign.wpIn (Fence.wide.inRound l) (n - 1 - 1) Try.prog (Exit.then (fun a₁ w₁ => w₁ = W ∧ body.wpIn (Fence.wide.inRound l) (n - 1 - 1) Try.prog (rowPost w.heap.size (I (k + 1)) Ix W2) a₁ W2) (fun _ _ _ => False))
        { tmps := (ps.zip #[.slice A p.length cap, v]).foldl (fun t (p, v) => t.setIfInBounds p v) a.tmps, defers := [] } W)
    (hdone : ∀ W, I res.length W → W.heap[w.heap.size]? = some (.deferred (some [])) → Q .normal { a with defers := { target := .collected w.heap.size, args := #[] } :: a.defers } W)
    (hstop : ∀ c W, Ix c W → W.heap[w.heap.size]? = some (.deferred (some [])) → c.wpIn Fence.wide n Try.prog Q { a with defers := { target := .collected w.heap.size, args := #[] } :: a.defers } W) :
    (Code.rangeFunc g ps assign body).wpIn Fence.wide n Try.prog Q a w := by
  refine wpIn_rangeFunc ?_
  intro fn hfn
  rw [show Fence.wide.round = none from rfl]
  obtain ⟨rec, hrec⟩ : ∃ rec : LoopState → Option Code → Loop, rec = fun st pe => { state := st, pending := pe, fn, tmps := a.tmps, params := ps, assign, body, defers := w.heap.size } := ⟨_, rfl⟩
  obtain ⟨W1, hW1⟩ : ∃ W1, (w.alloc (.deferred (some []))).alloc (.loop (rec .ready none)) = W1 := ⟨_, rfl⟩
  have hL1 : W1.heap[w.heap.size + 1]? = some (.loop (rec .ready none)) := by
    rw [← hW1]; have := World.alloc_heap_new (w.alloc (.deferred (some []))) (.loop (rec .ready none)); rwa [World.size_alloc] at this
  have hK1 : W1.heap[w.heap.size]? = some (.deferred (some [])) := by
    rw [← hW1]; exact (Below.heap_alloc _ _ _ (by simp)).trans (World.alloc_heap_new w _)
  have hI1 : I 0 W1 := by rw [← hW1]; exact hI _ _ _ h0 (((Fr.refl _ w).alloc _).alloc _)
  refine ⟨w.heap.size + 1, [{ target := .collected w.heap.size, args := #[] }], W1, { target := .fn (.func 48) #[ptr br, ptr bt], args := #[.func (.yield (w.heap.size + 1)) #[] #[]] }, W1, 48,
    #[.func (.yield (w.heap.size + 1)) #[] #[], ptr br, ptr bt], W1, ?_, ?_, ?_, ?_, (by intro h; cases h), ?_⟩
  · rw [← hW1, hrec]; exact run_enterLoop_outer _ _ _ _ _
  · simp only [resolve, hg]
    simp [go_sem]
  · intro f' _; trivial
  · simp only [invoke]
    exact (enters_of Try.func48 (by kernel_rfl) rfl) _ _
  · refine CallsIn.mono (iter_i (n - 1) (w.heap.size + 1) br bt B rv tv rvals res
      (fun k W => I k W ∧ W.heap[w.heap.size + 1]? = some (.loop (rec .ready none)) ∧ W.heap[w.heap.size]? = some (.deferred (some [])))
      (fun W => ∃ c, Ix c W ∧ W.heap[w.heap.size + 1]? = some (.loop (rec .done (some c))) ∧ W.heap[w.heap.size]? = some (.deferred (some [])))
      ?_ (fun k W h => hC k W h.1) hlen hN W1 ⟨hI1, hL1, hK1⟩) ?_
    · -- one round
      rintro k W0 W A cap p v hkv ⟨hi, hl0, hk0⟩ hbl hfr hrd hn0 hcap hown
      have hlt0 : w.heap.size + 1 < W0.heap.size := lt_of_heap hl0
      have hl : W.heap[w.heap.size + 1]? = some (.loop (rec .ready none)) := (hbl.block _ hlt0).trans hl0
      have hk : W.heap[w.heap.size]? = some (.deferred (some [])) := (hbl.block _ (by omega)).trans hk0
      have hlt : w.heap.size + 1 < W.heap.size := lt_of_heap hl
      have hy := run_yield (P := Try.prog) (args := #[.slice A p.length cap, v]) hl (by rw [hrec]; exact hps.symm)
      rw [hrec] at hy
      have hl2 : (W.putObj (w.heap.size + 1) (.loop { rec .ready none with state := .busy })).heap[w.heap.size + 1]? = some (.loop { rec .ready none with state := .busy }) := World.putObj_heap_same hlt
      have hk2 : (W.putObj (w.heap.size + 1) (.loop { rec .ready none with state := .busy })).heap[w.heap.size]? = some (.deferred (some [])) := (World.putObj_heap_other (by omega)).trans hk
      have hF : Fr (Two w.heap.size) W0 (W.putObj (w.heap.size + 1) (.loop { rec .ready none with state := .busy })) := (Fr.of_below hbl _).trans (fr_putObj hl (.inr rfl)) fun _ _ h => h
      have hnow : RowNow w.heap.size (I k) A cap p (W.putObj (w.heap.size + 1) (.loop { rec .ready none with state := .busy })) := by
        refine ⟨⟨W0, hi, hF, by omega, fun ad e => ?_, ?_⟩, ?_, hn0, hcap⟩
        · have := hfr ad e
          have hs : (W.putObj (w.heap.size + 1) (.loop { rec .ready none with state := .busy })).heap.size = W.heap.size := by simp [World.putObj]
          omega
        · refine ⟨hown.1, ?_⟩
          rcases hown.2 with h2 | ⟨g, cap', cur, hv, hg, hh, r⟩
          · exact .inl h2
          · refine .inr ⟨g, cap', cur, hv, hg, (World.putObj_heap_other (by omega)).trans hh, r⟩
        · refine RdT.frame hrd (fr_putObj (S := (· = w.heap.size + 1)) hl rfl) fun b c f hb e => ?_
          subst e
          rw [hl] at hb; cases hb
      have fin : ∀ (jump : Option Code) (W3 : World), (∀ j, Two w.heap.size j → W3.heap[j]? = (W.putObj (w.heap.size + 1) (.loop { rec .ready none with state := .busy })).heap[j]?) →
          (Instr.endRound (w.heap.size + 1) jump).run Try.prog W3 = .ok (.bool jump.isNone) (W3.putObj (w.heap.size + 1) (.loop (rec (if jump.isNone then .ready else .done) jump))) ∧
          W3.heap[w.heap.size + 1]? = some (.loop { rec .ready none with state := .busy }) ∧
          (W3.putObj (w.heap.size + 1) (.loop (rec (if jump.isNone then .ready else .done) jump))).heap[w.heap.size + 1]? = some (.loop (rec (if jump.isNone then .ready else .done) jump)) ∧
          (W3.putObj (w.heap.size + 1) (.loop (rec (if jump.isNone then .ready else .done) jump))).heap[w.heap.size]? = some (.deferred (some [])) := fun jump W3 hk3 => by
        have hl3 := (hk3 _ (.inr rfl)).trans hl2
        have := run_endRound (P := Try.prog) jump hl3
        rw [hrec] at this ⊢
        exact ⟨this, by rw [hrec] at hl3; exact hl3, World.putObj_heap_same (lt_of_heap hl3), (World.putObj_heap_other (by omega)).trans ((hk3 _ (.inl rfl)).trans hk2)⟩
      refine ⟨fn, _, assign, body, hy, roundIn_of_wpIn hfn (wpIn_mono (hround _ k A cap p v W _ hkv hnow) ?_)⟩
      intro e a1 w1 hp0
      cases e with
      | normal =>
        obtain ⟨rfl, hp0⟩ := hp0
        refine ⟨_, run_beginRound hl (by rw [hrec]), wpIn_mono hp0 ?_⟩
        clear hp0
        rintro e a3 W3 hp
        cases e with
        | normal =>
          obtain ⟨hk3, hi3⟩ := hp
          obtain ⟨hr, hl3, hl4, hk4⟩ := fin none W3 hk3
          exact ⟨_, _, hr, .inl ⟨rfl, hI _ _ _ hi3 (fr_putObj hl3 (.inr rfl)), hl4, hk4⟩⟩
        | ret =>
          obtain ⟨hk3, hi3⟩ := hp
          obtain ⟨hr, hl3, hl4, hk4⟩ := fin (some .ret) W3 hk3
          exact ⟨_, _, hr, .inr ⟨rfl, .ret, hIx _ _ _ hi3 (fr_putObj hl3 (.inr rfl)), hl4, hk4⟩⟩
        | exit id =>
          obtain ⟨hk3, hi3⟩ := hp
          obtain ⟨hr, hl3, hl4, hk4⟩ := fin (some (.exit id)) W3 hk3
          exact ⟨_, _, hr, .inr ⟨rfl, .exit id, hIx _ _ _ hi3 (fr_putObj hl3 (.inr rfl)), hl4, hk4⟩⟩
        | goto t =>
          obtain ⟨hk3, hi3⟩ := hp
          obtain ⟨hr, hl3, hl4, hk4⟩ := fin (some (.goto t)) W3 hk3
          exact ⟨_, _, hr, .inr ⟨rfl, .goto t, hIx _ _ _ hi3 (fr_putObj hl3 (.inr rfl)), hl4, hk4⟩⟩
        | panic ch => exact hp.elim
        | outgrown => exact hp.elim

      | ret => exact hp0.elim
      | exit id => exact hp0.elim
      | goto t => exact hp0.elim
      | panic ch => exact hp0.elim
      | outgrown => exact hp0.elim
    · rintro e W2 ⟨⟨v, rfl⟩, (⟨hi, hl, hk⟩ | ⟨c, hi, hl, hk⟩)⟩
      · exact ⟨none, _, by have := run_endLoop (P := Try.prog) hl (by rw [hrec]; simp); rw [hrec] at this; exact this, hdone _ (hI _ _ _ hi (fr_putObj hl (.inr rfl))) ((World.putObj_heap_other (by omega)).trans hk)⟩
      · exact ⟨some c, _, by have := run_endLoop (P := Try.prog) hl (by rw [hrec]; simp); rw [hrec] at this; exact this, hstop c _ (hIx _ _ _ hi (fr_putObj hl (.inr rfl))) ((World.putObj_heap_other (by omega)).trans hk)⟩
end Go.Proofs.Ytioflglfnalcaaa

/- The rule of Reg inside a fence: a region whose order is open, one obligation for each operation. -/
import Derived.OrdersIn
import Derived.Test.YtioflglfnalcaaaReg
namespace Go.Proofs.Ytioflglfnalcaaa

section
variable {F : Fence} {n : Nat} {P : Program} {ops : Array Oper} {Q : Exit → Act → World → Prop}

/-- What is asked of one operation. -/
def StepIn (F : Fence) (n : Nat) (P : Program) (ops : Array Oper) (Q : Exit → Act → World → Prop) (o : Oper) (K : Act → World → Prop) (a : Act) (w : World) : Prop :=
  if Region.wanted o (yielded ops a.tmps) then o.wpIn F n P a w K Q else (∀ f, o.about P w a.eval = some f → F.fn f) ∧ K (a.put o.dst undef) w

theorem wpOpIn_of {i : Nat} {o : Oper} {a : Act} {w : World} {K : Act → World → Prop} (ho : ops[i]? = some o) (h : StepIn F n P ops Q o K a w) : wpOpIn F n P ops Q i K a w := by
  unfold wpOpIn
  rw [ho]
  exact h

theorem StepIn.mono {o : Oper} {K K' : Act → World → Prop} {a : Act} {w : World} (h : StepIn F n P ops Q o K a w) (hk : ∀ a w, K a w → K' a w) : StepIn F n P ops Q o K' a w := by
  unfold StepIn at *
  split
  · rename_i hw; rw [if_pos hw] at h; exact Oper.wpIn_mono hk h
  · rename_i hw; rw [if_neg hw] at h; exact ⟨h.1, hk _ _ h.2⟩

theorem wpAnyIn_facts (hb : Region.backward ops = true) (J : (Nat → Bool) → Act → World → Prop)
    (hstep : ∀ i o (L : Nat → Bool) a w, ops[i]? = some o → L i = false → (∀ e ∈ o.after, Region.binds .any e = true → L e.on = true) → J L a w → StepIn F n P ops Q o (J (fun j => decide (j = i) || L j)) a w)
    (hend : ∀ L a w, (∀ i, i < ops.size → L i = true) → J L a w → Q .normal a w) :
    ∀ (fuel : Nat) (listed : Array Bool) (a : Act) (w : World), listed.size = ops.size → leftOver listed ≤ fuel → J (overOf listed) a w → wpAnyIn F n P .any ops Q fuel listed a w := by
  intro fuel
  induction fuel with
  | zero =>
    intro listed a w hs hl hJ
    have hr : Region.ready .any ops listed = [] := by
      rw [List.eq_nil_iff_forall_not_mem]
      intro i hi
      obtain ⟨o, ho, h1, _⟩ := (mem_ready_iff hs).1 hi
      have hlt : i < ops.size := by
        rcases Nat.lt_or_ge i ops.size with h | h
        · exact h
        · rw [Array.getElem?_eq_none h] at ho; cases ho
      have := leftOver_set listed (by omega) h1
      omega
    exact ⟨hr, hend _ _ _ (all_over hb hs hr) hJ⟩
  | succ fuel ih =>
    intro listed a w hs hl hJ
    refine ⟨fun hr => hend _ _ _ (all_over hb hs hr) hJ, fun i hi => ?_⟩
    obtain ⟨o, ho, h1, h2⟩ := (mem_ready_iff hs).1 hi
    have hlt : i < listed.size := by
      rcases Nat.lt_or_ge i ops.size with h | h
      · omega
      · rw [Array.getElem?_eq_none h] at ho; cases ho
    refine wpOpIn_mono (fun a' w' hJ' => ih _ a' w' (by simpa using hs) (by have := leftOver_set listed hlt h1; omega) ?_) (wpOpIn_of ho (hstep i o _ a w ho h1 h2 hJ))
    rw [overOf_set listed i hlt]
    exact hJ'

theorem wpIn_region_facts {id : Nat} {a : Act} {w : World} (hm : P.follows .mixedOrders = true) (hb : Region.backward ops = true) (J : (Nat → Bool) → Act → World → Prop) (h0 : J (fun _ => false) a w.drew)
    (hstep : ∀ i o (L : Nat → Bool) a w, ops[i]? = some o → L i = false → (∀ e ∈ o.after, Region.binds .any e = true → L e.on = true) → J L a w → StepIn F n P ops Q o (J (fun j => decide (j = i) || L j)) a w)
    (hend : ∀ L a w, (∀ i, i < ops.size → L i = true) → J L a w → Q .normal a w) : (Code.region id ops true).wpIn F n P Q a w := by
  refine wpIn_region_any hm (wpAnyIn_facts hb J hstep hend ops.size _ a _ (by simp) ?_ ?_)
  · unfold leftOver
    refine Nat.le_trans (List.length_filter_le _ _) (by simp)
  · have e : overOf (Array.replicate ops.size false) = fun _ => false := by
      funext i
      simp [overOf, Array.getD]
    rw [e]; exact h0

theorem wpIn_region_closed {id : Nat} {a : Act} {w : World} (hm : P.follows .mixedOrders = true) (hb : Region.backward ops = true) (J : (Nat → Bool) → Act → World → Prop) (h0 : J (fun _ => false) a w.drew)
    (hstep : ∀ i o (L : Nat → Bool) a w, ops[i]? = some o → L i = false → (∀ e ∈ o.after, Region.binds .any e = true → L e.on = true) → Closed ops L → J L a w → StepIn F n P ops Q o (J (fun j => decide (j = i) || L j)) a w)
    (hend : ∀ L a w, (∀ i, i < ops.size → L i = true) → J L a w → Q .normal a w) : (Code.region id ops true).wpIn F n P Q a w := by
  refine wpIn_region_facts hm hb (fun L a w => Closed ops L ∧ J L a w) ⟨(fun i o _ h => Bool.noConfusion h), h0⟩ ?_ (fun L a w h1 h2 => hend L a w h1 h2.2)
  rintro i o L a w ho hL hpre ⟨hc, hJ⟩
  have hc' : Closed ops (fun j => decide (j = i) || L j) := by
    intro i' o' ho' hl e he hb'
    by_cases h1 : i' = i
    · subst h1
      rw [ho] at ho'; cases ho'
      simp [hpre e he hb']
    · simp only [h1, decide_false, Bool.false_or] at hl
      simp [hc i' o' ho' hl e he hb']
  exact (hstep i o L a w ho hL hpre hc hJ).mono fun a w hJ => ⟨hc', hJ⟩
end
end Go.Proofs.Ytioflglfnalcaaa

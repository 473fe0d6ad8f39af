/- A region whose order is open, by what holds when some of its operations are over: one obligation for each operation. -/
import Derived.Orders
import Derived.Deep.Draws
import Derived.WalkKit
namespace Go.Proofs.Ytioflglfnalcaaa

section
variable {P : Program} {ops : Array Oper} {Q : Exit → Act → World → Prop}

/-- Which operations are over, by the model's list. -/
def overOf (listed : Array Bool) (i : Nat) : Bool := listed.getD i false

theorem overOf_set (listed : Array Bool) (i : Nat) (h : i < listed.size) : overOf (listed.setIfInBounds i true) = fun j => decide (j = i) || overOf listed j := by
  funext j
  unfold overOf
  by_cases e : j = i
  · subst e; simp [Array.getD, h]
  · simp only [Array.getD_eq_getD_getElem?, e, decide_false, Bool.false_or]
    rw [Array.getElem?_setIfInBounds_ne (fun h => e h.symm)]

theorem mem_ready_iff {listed : Array Bool} (hs : listed.size = ops.size) {i : Nat} : i ∈ Region.ready .any ops listed ↔
    ∃ o, ops[i]? = some o ∧ overOf listed i = false ∧ ∀ e ∈ o.after, Region.binds .any e = true → overOf listed e.on = true := by
  unfold Region.ready overOf
  simp only [List.mem_filter, List.mem_range, Bool.and_eq_true, Bool.not_eq_true']
  constructor
  · rintro ⟨hi, h1, h2⟩
    have ho : ops[i]? = some ops[i] := by simp [hi]
    refine ⟨_, ho, ?_, ?_⟩
    · simp only [Array.getD, hs, hi, dite_true] at h1 ⊢; exact h1
    · rw [ho] at h2
      simp only [Option.map_some, Option.getD_some, Array.all_eq_true_iff_forall_mem, Bool.or_eq_true, Bool.not_eq_true'] at h2
      intro e he hb
      rcases h2 e he with h | h
      · rw [hb] at h; cases h
      · exact h
  · rintro ⟨o, ho, h1, h2⟩
    have hi : i < ops.size := by
      rcases Nat.lt_or_ge i ops.size with h | h
      · exact h
      · rw [Array.getElem?_eq_none h] at ho; cases ho
    refine ⟨hi, ?_, ?_⟩
    · simp only [Array.getD, hs, hi, dite_true] at h1 ⊢; exact h1
    · rw [ho]
      simp only [Option.map_some, Option.getD_some, Array.all_eq_true_iff_forall_mem, Bool.or_eq_true, Bool.not_eq_true']
      intro e he
      cases hb : Region.binds .any e with
      | false => exact .inl rfl
      | true => exact .inr (h2 e he hb)

/-- Each operation waits for earlier ones alone. -/
def Region.backward (ops : Array Oper) : Bool := (List.range ops.size).all fun i => ((ops[i]?).map (·.after.all fun e => !Region.binds .any e || decide (e.on < i))).getD true

theorem all_over (hb : Region.backward ops = true) {listed : Array Bool} (hs : listed.size = ops.size) (hr : Region.ready .any ops listed = []) : ∀ i, i < ops.size → overOf listed i = true := by
  intro i
  induction i using Nat.strongRecOn with
  | _ i ih =>
    intro hi
    cases hc : overOf listed i with
    | true => rfl
    | false =>
      have hm : i ∈ Region.ready .any ops listed := by
        rw [mem_ready_iff hs]
        refine ⟨ops[i], by simp [hi], hc, fun e he hbe => ?_⟩
        have h1 := List.all_eq_true.1 hb i (List.mem_range.2 hi)
        rw [show ops[i]? = some ops[i] by simp [hi]] at h1
        simp only [Option.map_some, Option.getD_some, Array.all_eq_true_iff_forall_mem, Bool.or_eq_true, Bool.not_eq_true', decide_eq_true_eq] at h1
        have hlt : e.on < i := by
          rcases h1 e he with h | h
          · rw [hbe] at h; cases h
          · exact h
        exact ih e.on hlt (by omega)
      rw [hr] at hm; cases hm

def leftOver (listed : Array Bool) : Nat := ((List.range listed.size).filter fun i => !overOf listed i).length

theorem leftOver_set (listed : Array Bool) {i : Nat} (hi : i < listed.size) (ho : overOf listed i = false) : leftOver (listed.setIfInBounds i true) < leftOver listed := by
  unfold leftOver
  rw [overOf_set listed i hi]
  simp only [Array.size_setIfInBounds]
  refine filter_lt (fun j => !overOf listed j) (fun j => !(decide (j = i) || overOf listed j)) (fun x hx => ?_) i (by simp [ho]) (by simp) _ (List.mem_range.2 hi)
  by_cases e : x = i
  · subst e; simp at hx
  · simpa [e] using hx

theorem wpOp_of {i : Nat} {o : Oper} {a : Act} {w : World} {K : Act → World → Prop} (ho : ops[i]? = some o) (h : if Region.wanted o (yielded ops a.tmps) then o.wp P a w K Q else K (a.put o.dst undef) w) : wpOp P ops Q i K a w := by
  unfold wpOp
  rw [ho]
  dsimp only
  split
  · rename_i hw; rw [if_pos hw] at h; exact .inl h
  · rename_i hw; rw [if_neg hw] at h; exact h

theorem wpAny_facts (hb : Region.backward ops = true) (J : (Nat → Bool) → Act → World → Prop)
    (hstep : ∀ i o (L : Nat → Bool) a w, ops[i]? = some o → L i = false → (∀ e ∈ o.after, Region.binds .any e = true → L e.on = true) → J L a w → if Region.wanted o (yielded ops a.tmps) then o.wp P a w (J (fun j => decide (j = i) || L j)) Q else J (fun j => decide (j = i) || L j) (a.put o.dst undef) w)
    (hend : ∀ L a w, (∀ i, i < ops.size → L i = true) → J L a w → Q .normal a w) :
    ∀ (fuel : Nat) (listed : Array Bool) (a : Act) (w : World), listed.size = ops.size → leftOver listed ≤ fuel → J (overOf listed) a w → wpAny P .any ops Q fuel listed a w := by
  intro fuel
  induction fuel with
  | zero =>
    intro listed a w hs hl hJ
    have hr : Region.ready .any ops listed = [] := by
      rw [List.eq_nil_iff_forall_not_mem]
      intro i hi
      obtain ⟨o, ho, h1, _⟩ := (mem_ready_iff hs).1 hi
      have hlt : i < ops.size := by
        rcases Nat.lt_or_ge i ops.size with h | h
        · exact h
        · rw [Array.getElem?_eq_none h] at ho; cases ho
      have := leftOver_set listed (by omega) h1
      omega
    exact ⟨hr, hend _ _ _ (all_over hb hs hr) hJ⟩
  | succ fuel ih =>
    intro listed a w hs hl hJ
    refine ⟨fun hr => hend _ _ _ (all_over hb hs hr) hJ, fun i hi => ?_⟩
    obtain ⟨o, ho, h1, h2⟩ := (mem_ready_iff hs).1 hi
    have hlt : i < listed.size := by
      rcases Nat.lt_or_ge i ops.size with h | h
      · omega
      · rw [Array.getElem?_eq_none h] at ho; cases ho
    refine wpOp_mono (fun a' w' hJ' => ih _ a' w' (by simpa using hs) (by have := leftOver_set listed hlt h1; omega) ?_) (wpOp_of ho (hstep i o _ a w ho h1 h2 hJ))
    rw [overOf_set listed i hlt]
    exact hJ'

/-- **The rule**: what holds when the operations of L are over; each operation that may come next keeps it. -/
theorem wp_region_facts {id : Nat} {a : Act} {w : World} (hm : P.follows .mixedOrders = true) (hb : Region.backward ops = true) (J : (Nat → Bool) → Act → World → Prop) (h0 : J (fun _ => false) a w.drew)
    (hstep : ∀ i o (L : Nat → Bool) a w, ops[i]? = some o → L i = false → (∀ e ∈ o.after, Region.binds .any e = true → L e.on = true) → J L a w → if Region.wanted o (yielded ops a.tmps) then o.wp P a w (J (fun j => decide (j = i) || L j)) Q else J (fun j => decide (j = i) || L j) (a.put o.dst undef) w)
    (hend : ∀ L a w, (∀ i, i < ops.size → L i = true) → J L a w → Q .normal a w) : (Code.region id ops true).wp P Q a w := by
  refine wp_region_any hm (wpAny_facts hb J hstep hend ops.size _ a _ (by simp) ?_ ?_)
  · unfold leftOver
    refine Nat.le_trans (List.length_filter_le _ _) (by simp)
  · have e : overOf (Array.replicate ops.size false) = fun _ => false := by
      funext i
      simp [overOf, Array.getD]
    rw [e]; exact h0

/-- What an operation that is over waited for is over. -/
def Closed (ops : Array Oper) (L : Nat → Bool) : Prop := ∀ (i : Nat) (o : Oper), ops[i]? = some o → L i = true → ∀ e ∈ o.after, Region.binds .any e = true → L e.on = true

theorem wp_region_closed {id : Nat} {a : Act} {w : World} (hm : P.follows .mixedOrders = true) (hb : Region.backward ops = true) (J : (Nat → Bool) → Act → World → Prop) (h0 : J (fun _ => false) a w.drew)
    (hstep : ∀ i o (L : Nat → Bool) a w, ops[i]? = some o → L i = false → (∀ e ∈ o.after, Region.binds .any e = true → L e.on = true) → Closed ops L → J L a w → if Region.wanted o (yielded ops a.tmps) then o.wp P a w (J (fun j => decide (j = i) || L j)) Q else J (fun j => decide (j = i) || L j) (a.put o.dst undef) w)
    (hend : ∀ L a w, (∀ i, i < ops.size → L i = true) → J L a w → Q .normal a w) : (Code.region id ops true).wp P Q a w := by
  refine wp_region_facts hm hb (fun L a w => Closed ops L ∧ J L a w) ⟨(fun i o _ h => Bool.noConfusion h), h0⟩ ?_ (fun L a w h1 h2 => hend L a w h1 h2.2)
  rintro i o L a w ho hL hpre ⟨hc, hJ⟩
  have h := hstep i o L a w ho hL hpre hc hJ
  have hc' : Closed ops (fun j => decide (j = i) || L j) := by
    intro i' o' ho' hl e he hb'
    by_cases h1 : i' = i
    · subst h1
      rw [ho] at ho'; cases ho'
      simp [hpre e he hb']
    · simp only [h1, decide_false, Bool.false_or] at hl
      simp [hc i' o' ho' hl e he hb']
  split
  · rename_i hw
    rw [if_pos hw] at h
    exact Oper.wp_mono (fun a w hJ => ⟨hc', hJ⟩) h
  · rename_i hw
    rw [if_neg hw] at h
    exact ⟨hc', h⟩
end
end Go.Proofs.Ytioflglfnalcaaa

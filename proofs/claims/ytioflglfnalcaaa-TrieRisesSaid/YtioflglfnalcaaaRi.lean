/- TrieRises: the row's theorem. -/
import Derived.Test.YtioflglfnalcaaaRo
import Derived.Test.YtioflglfnalcaaaRc
namespace Go.Proofs.Ytioflglfnalcaaa
open Go.ChangeShapes Go.WideShapes Go.ChangeAt Go.RowKit Go.Deep

def RdRowsX (w : World) (Av : Option Addr) (rows : List (List Int)) : Prop :=
  ∀ i, i < rows.length → ∃ b off A c, Av = some ⟨b, off, none⟩ ∧ w.cell? ⟨b, off + i, none⟩ = some (.slice A (rows.getD i []).length c) ∧ RdI w A (rows.getD i []) ∧ (rows.getD i []).length ≤ 35184372087808
theorem RdRowsX.four {w : World} {Av : Option Addr} {rows : List (List Int)} (h : RdRowsX w Av rows) : RdRows4 w Av rows :=
  ⟨fun i hi => by
    obtain ⟨b, off, A, c, h1, h2, h3, h4⟩ := h i hi
    exact ⟨b, off, A, c, h1, h2, h3, by omega⟩, fun i hi => by
    obtain ⟨b, off, A, c, h1, h2, h3, h4⟩ := h i hi
    exact h4⟩

/-- A list of lists of runes, opened. -/
theorem open_rune_rows4 {H : Type} {enc : TypeId × Value → H} {W : World} {base : Nat} {held : Bool} {fuel : Nat} {v : Value} {x : DataW H × List MemPlace} (hv : ∃ a l c, v = .slice a l c) (h : DataW.trod enc Try.prog W base (fun _ => true) held fuel 43 v.cells.toList = some x)
    {ts : List TypeId} {ds : List (DataW H)} (hsz : (DataW.weightsEach Try.prog ts ds).all (· ≤ reachBytes) = true) {j : Nat} (hj : ts[j]? = some 43) (hd : ds[j]? = some x.1) :
    ∃ A cap rows, v = .slice A rows.length cap ∧ RdRowsX W A rows ∧ rows.length * 24 ≤ 140737488351232 := by
  obtain ⟨a0, l0, c0, rfl⟩ := hv
  rcases open_int_rows Try.underlying43 Try.underlying36 Try.underlying21 Try.cells36 Try.cells21 h with ⟨hcs, rfl⟩ | ⟨a, len, cap, A, L, C, Z, hcs, _, hl, hm, rfl, hrow⟩
  · simp [Value.cells] at hcs
    obtain ⟨rfl, rfl, rfl⟩ := hcs
    exact ⟨none, 0, [], rfl, (fun k hk => absurd hk (Nat.not_lt_zero k)), by simp⟩
  · simp [Value.cells] at hcs
    obtain ⟨rfl, rfl, rfl⟩ := hcs
    have hs1 := sized_slice hsz hj hd Try.underlying43
    rw [Try.bytes36, reach_eq] at hs1
    simp only [List.length_map, List.length_range] at hs1
    refine ⟨some a, c0, (List.range l0).map fun r => (Z r).take (L r), by simp, fun i hi => ?_, by simp; omega⟩
    simp only [List.length_map, List.length_range] at hi
    obtain ⟨k1, k2, k3, k4, k5, k6, k7⟩ := hrow i (by omega)
    have e1 : ((List.range l0).map fun r => (Z r).take (L r)).getD i [] = (Z i).take (L i) := by simp [List.getD, hi]
    have e2 : ((Z i).take (L i)).length = L i := by rw [List.length_take]; omega
    obtain ⟨b, off, spot⟩ := a
    have hspot : spot = none := by simpa [Addr.add] using World.cell?_spot (hrow 0 (by omega)).1
    subst hspot
    rw [addr_add] at k1
    rw [e1, e2]
    refine ⟨b, off, A i, C i, rfl, k1, rdI_of_opened (fun a' e c hc => (k7 a' e).2 c (by omega)) (fun e => by have := k6 e; omega) (by omega), ?_⟩
    cases hA : A i with
    | none => have := k6 hA; omega
    | some ai =>
      have hmem : DataW.slice (H := H) (lits .i32 ((Z i).take (L i))) (lits .i32 ((Z i).drop (L i))) ∈ (List.range l0).map fun r => intRow (H := H) .i32 (A r) (L r) (Z r) := List.mem_map.2 ⟨i, List.mem_range.2 hi, by simp only [intRow, hA]⟩
      have hs2 := sized_inner hsz hj hd Try.underlying43 Try.underlying36 hmem
      rw [Try.bytes21, reach_eq] at hs2
      simp only [lits, List.length_map] at hs2
      omega

set_option maxHeartbeats 1600000 in
set_option maxRecDepth 100000 in
theorem trieRises_lifted (os : Os) (started : os.Started) (H : Type) (enc : TypeId × Value → H) :
    ReturnsInHanded {} Try.checked os 5 .any (Rows.trieRisesSpec.pre6 enc Try.prog Try.f5 Rows.trieRisesRow.domain false) (Rows.trieRisesSpec.post enc Try.prog Try.f5 false true false false) := by
  refine returnsInHanded_of_change_sized (C := Try.checked) Try.own started (by kernel_rfl) Try.func5
    (ChangeSpec.witness6 (enc := enc) (C := Try.checked) false ⟨#[], #[.slice none 0 0, .slice none 0 0], []⟩ 8 (by kernel_rfl) (by kernel_rfl) (by kernel_rfl) (by kernel_rfl)) ?_
  intro W base args ds gs before hval0 hW _ hsz0 _
  have hval : ∀ (j : Nat) t v, Try.f5.params[j]? = some t → args[j]? = some v → Value.okWide Try.prog W .any base t v := hval0
  have hsz : (DataW.weightsEach Try.prog (Try.f5.params.toList ++ Rows.trieRisesSpec.plain.varTypes Try.prog) (ds ++ gs)).all (· ≤ reachBytes) = true := hsz0
  have hW' := hW
  obtain ⟨p, q, hA0, hV, rfl, _, _⟩ := hW
  have hA : DataW.TrodAll enc Try.prog W 0 (fun _ => true) true Try.f5.params.toList args.toList ds p := hA0
  rw [Try.params5] at hA hval hsz
  obtain ⟨v0, v1, d0, d1, p0, p1, rfl, rfl, rfl, h0, h1⟩ := trodAll_two hA
  obtain ⟨rfl, rfl⟩ := trodVars_none hV
  have h0k := h0
  have h1k := h1
  obtain ⟨fuel0, hf0⟩ := h0
  obtain ⟨fuel1, hf1⟩ := h1
  clear hA0 hval0 hsz0
  simp only [List.append_nil] at hW'
  have hlt : ∀ x ∈ p0 ++ p1, x.block < W.heap.size := fun x hx => hW'.lt x (by simpa using hx)
  obtain ⟨A, cap, rows, rfl, hr1, hr2⟩ := open_rune_rows4 (okWide_slice Try.underlying43 (hval 0 43 v0 rfl rfl)) hf0 hsz (j := 0) rfl rfl
  obtain ⟨A2, cap2, l, rfl, hl1, hl2, hl4, _, hl3⟩ := open_runes (okWide_slice Try.underlying36 (hval 1 36 v1 rfl rfl)) hf1
  have hll : l.length ≤ 35184372087808 := by
    rcases hl3 with ⟨_, h⟩ | ⟨a, b, h, h'⟩
    · omega
    · have := sized_slice hsz (j := 1) (t := 36) rfl (congrArg some h) Try.underlying36
      rw [Try.bytes21, reach_eq] at this
      omega
  refine (callsIn_wide.1 (rises_law 1 W A A2 cap cap2 rows l hr1.four hl1 hl4 hll (by omega))).mono fun e W' ⟨he, hb⟩ => ?_
  subst he
  exact ⟨_, rfl, ⟨_, _, _, [], _, [], hW', trodAll_mk1 (shut_bool Try.underlying4 true), trodAll_mk2 (Below.trod Try.laidOut (by kernel_rfl) (of_decide_eq_true (by kernel_rfl)) h0k hb (fun x hx => hlt x (by simp [hx]))) (Below.trod Try.laidOut (by kernel_rfl) (of_decide_eq_true (by kernel_rfl)) h1k hb (fun x hx => hlt x (by simp [hx]))), rfl, hb.frame _, fun h => by cases h⟩⟩

theorem trieRises_holds : Rows.TrieRisesSaid :=
  OpenClaim.holds_of_wide 5 Try.f5 rfl rfl rfl rfl rfl rfl rfl ⟨rfl, rfl, rfl, rfl, rfl⟩ rfl rfl rfl rfl rfl (by kernel_rfl) Try.func5 (by kernel_rfl)
    (of_decide_eq_true (by kernel_rfl)) (by unfold Func.isWrapper; first | (rw [if_pos (by decide +kernel)]; kernel_rfl) | (rw [if_neg (by decide +kernel)]; exact ⟨rfl, rfl⟩))
    (fun os started H enc _ => trieRises_lifted os started H enc)
end Go.Proofs.Ytioflglfnalcaaa

/- TrieLongest: the row's theorem. -/
import Derived.Test.YtioflglfnalcaaaRows
import Derived.Test.YtioflglfnalcaaaLo
import Derived.ProofKit
import Derived.Deep.Matrix
import Derived.SizedLaws
import Derived.Carry
namespace Go.Proofs.Ytioflglfnalcaaa
open Go.ChangeShapes Go.WideShapes Go.ChangeAt Go.RowKit Go.Deep

theorem Try.own : ownKnob Try.prog.godebug = none := by kernel_rfl
theorem Try.laidOut : laidOutB Try.prog = true := by kernel_rfl
theorem Try.cells36 : Try.prog.cellsOf 36 = 1 := by kernel_rfl
theorem Try.cells21 : Try.prog.cellsOf 21 = 1 := by kernel_rfl
theorem Try.bytes36 : Try.prog.bytesOf 36 = 24 := by kernel_rfl
theorem Try.bytes21 : Try.prog.bytesOf 21 = 4 := by kernel_rfl
theorem reach_eq : reachBytes = 140737488351232 := rfl

theorem mem_weightsAll {H : Type} {P : Program} {e : TypeId} : ∀ {l : List (DataW H)} {d : DataW H}, d ∈ l → ∀ n ∈ d.weights P e, n ∈ DataW.weightsAll P e l
  | x :: l, d, hd, n, hn => by
    simp only [DataW.weightsAll, List.mem_append]
    rcases List.mem_cons.1 hd with rfl | h
    · exact .inl hn
    · exact .inr (mem_weightsAll h n hn)

theorem sized_inner {H : Type} {P : Program} {ts : List TypeId} {ds : List (DataW H)} (h : (DataW.weightsEach P ts ds).all (· ≤ reachBytes) = true) {j : Nat} {t e q : TypeId} {elems spare a b : List (DataW H)} (ht : ts[j]? = some t) (hd : ds[j]? = some (.slice elems spare))
    (hu : P.underlying t = some (.slice e)) (hue : P.underlying e = some (.slice q)) (hm : .slice a b ∈ elems) : (a.length + b.length) * P.bytesOf q ≤ reachBytes := by
  have := List.all_eq_true.1 h _ (DataW.weights_mem_each ht hd ((a.length + b.length) * P.bytesOf q) (by
    simp only [DataW.weights, hu, List.mem_cons, List.mem_append]
    exact .inr (.inl (mem_weightsAll hm _ (by simp [DataW.weights, hue])))))
  simpa using this

theorem rdI_of_opened {w : World} {A : Option Addr} {zs : List Int} {L : Nat} (h : ∀ a, A = some a → ∀ c, c < L → w.cell? (a.add c) = some (.int .i32 (zs.getD c 0))) (hn : A = none → L = 0) (hL : L ≤ zs.length) : RdI w A (zs.take L) := by
  intro k hk
  have hk' : k < L := by rw [List.length_take] at hk; omega
  cases A with
  | none => have := hn rfl; omega
  | some a =>
    obtain ⟨b, off, spot⟩ := a
    have h0 := h _ rfl k hk'
    have hspot : spot = none := by simpa [Addr.add] using World.cell?_spot (h _ rfl 0 (by omega))
    subst hspot
    refine ⟨b, off, rfl, ?_⟩
    rw [addr_add] at h0
    rw [h0]
    simp [List.getD, hk']

/-- One list of runes, opened. -/
theorem open_runes {H : Type} {enc : TypeId × Value → H} {W : World} {base : Nat} {held : Bool} {fuel : Nat} {v : Value} {x : DataW H × List MemPlace} (hv : ∃ a l c, v = .slice a l c) (h : DataW.trod enc Try.prog W base (fun _ => true) held fuel 36 v.cells.toList = some x) :
    ∃ A cap l, v = .slice A l.length cap ∧ RdI W A l ∧ l.length ≤ cap ∧ (A = none → cap = 0) ∧ cap ≤ maxLen ∧ (x.1 = .nil ∧ cap = 0 ∨ ∃ a b, x.1 = .slice a b ∧ a.length + b.length = cap) := by
  obtain ⟨a0, l0, c0, rfl⟩ := hv
  rcases open_ints Try.underlying36 Try.underlying21 Try.cells21 h with ⟨hcs, rfl⟩ | ⟨a, len, cap, zs, hcs, _, hl, hm, hz, rfl, hcell, _⟩
  · simp [Value.cells] at hcs
    obtain ⟨rfl, rfl, rfl⟩ := hcs
    exact ⟨none, 0, [], rfl, (fun k hk => absurd hk (Nat.not_lt_zero k)), Nat.le_refl _, fun _ => rfl, Nat.zero_le _, .inl ⟨rfl, rfl⟩⟩
  · simp [Value.cells] at hcs
    obtain ⟨rfl, rfl, rfl⟩ := hcs
    simp only [if_true] at hz
    have hln : (zs.take l0).length = l0 := by rw [List.length_take]; omega
    refine ⟨some a, c0, zs.take l0, by rw [hln], rdI_of_opened (fun a' e c hc => ?_) (fun e => by cases e) (by omega), by omega, (fun e => by cases e), hm, .inr ⟨_, _, rfl, by simp [lits]; omega⟩⟩
    cases e
    exact hcell c (by omega)

/-- A list of lists of runes, opened. -/
theorem open_rune_rows {H : Type} {enc : TypeId × Value → H} {W : World} {base : Nat} {held : Bool} {fuel : Nat} {v : Value} {x : DataW H × List MemPlace} (hv : ∃ a l c, v = .slice a l c) (h : DataW.trod enc Try.prog W base (fun _ => true) held fuel 43 v.cells.toList = some x)
    {ts : List TypeId} {ds : List (DataW H)} (hsz : (DataW.weightsEach Try.prog ts ds).all (· ≤ reachBytes) = true) {j : Nat} (hj : ts[j]? = some 43) (hd : ds[j]? = some x.1) :
    ∃ A cap rows, v = .slice A rows.length cap ∧ RdRows W A rows ∧ rows.length * 24 ≤ 140737488351232 := by
  obtain ⟨a0, l0, c0, rfl⟩ := hv
  rcases open_int_rows Try.underlying43 Try.underlying36 Try.underlying21 Try.cells36 Try.cells21 h with ⟨hcs, rfl⟩ | ⟨a, len, cap, A, L, C, Z, hcs, _, hl, hm, rfl, hrow⟩
  · simp [Value.cells] at hcs
    obtain ⟨rfl, rfl, rfl⟩ := hcs
    exact ⟨none, 0, [], rfl, (fun k hk => absurd hk (Nat.not_lt_zero k)), by simp⟩
  · simp [Value.cells] at hcs
    obtain ⟨rfl, rfl, rfl⟩ := hcs
    have hs1 := sized_slice hsz hj hd Try.underlying43
    rw [Try.bytes36, reach_eq] at hs1
    simp only [List.length_map, List.length_range] at hs1
    refine ⟨some a, c0, (List.range l0).map fun r => (Z r).take (L r), by simp, fun i hi => ?_, by simp; omega⟩
    simp only [List.length_map, List.length_range] at hi
    obtain ⟨k1, k2, k3, k4, k5, k6, k7⟩ := hrow i (by omega)
    have e1 : ((List.range l0).map fun r => (Z r).take (L r)).getD i [] = (Z i).take (L i) := by simp [List.getD, hi]
    have e2 : ((Z i).take (L i)).length = L i := by rw [List.length_take]; omega
    obtain ⟨b, off, spot⟩ := a
    have hspot : spot = none := by simpa [Addr.add] using World.cell?_spot (hrow 0 (by omega)).1
    subst hspot
    rw [addr_add] at k1
    rw [e1, e2]
    refine ⟨b, off, A i, C i, rfl, k1, rdI_of_opened (fun a' e c hc => (k7 a' e).2 c (by omega)) (fun e => by have := k6 e; omega) (by omega), ?_⟩
    cases hA : A i with
    | none => have := k6 hA; omega
    | some ai =>
      have hmem : DataW.slice (H := H) (lits .i32 ((Z i).take (L i))) (lits .i32 ((Z i).drop (L i))) ∈ (List.range l0).map fun r => intRow (H := H) .i32 (A r) (L r) (Z r) := List.mem_map.2 ⟨i, List.mem_range.2 hi, by simp only [intRow, hA]⟩
      have hs2 := sized_inner hsz hj hd Try.underlying43 Try.underlying36 hmem
      rw [Try.bytes21, reach_eq] at hs2
      simp only [lits, List.length_map] at hs2
      omega

set_option maxHeartbeats 1600000 in
set_option maxRecDepth 100000 in
theorem trieLongest_lifted (os : Os) (started : os.Started) (H : Type) (enc : TypeId × Value → H) :
    ReturnsInHanded {} Try.checked os 4 .any (Rows.trieLongestSpec.pre6 enc Try.prog Try.f4 Rows.trieLongestRow.domain false) (Rows.trieLongestSpec.post enc Try.prog Try.f4 false true false false) := by
  refine returnsInHanded_of_change_sized (C := Try.checked) Try.own started (by kernel_rfl) Try.func4
    (ChangeSpec.witness6 (enc := enc) (C := Try.checked) false ⟨#[], #[.slice none 0 0, .slice none 0 0], []⟩ 8 (by kernel_rfl) (by kernel_rfl) (by kernel_rfl) (by kernel_rfl)) ?_
  intro W base args ds gs before hval0 hW _ hsz0 _
  have hval : ∀ (j : Nat) t v, Try.f4.params[j]? = some t → args[j]? = some v → Value.okWide Try.prog W .any base t v := hval0
  have hsz : (DataW.weightsEach Try.prog (Try.f4.params.toList ++ Rows.trieLongestSpec.plain.varTypes Try.prog) (ds ++ gs)).all (· ≤ reachBytes) = true := hsz0
  have hW' := hW
  obtain ⟨p, q, hA0, hV, rfl, _, _⟩ := hW
  have hA : DataW.TrodAll enc Try.prog W 0 (fun _ => true) true Try.f4.params.toList args.toList ds p := hA0
  rw [Try.params4] at hA hval hsz
  obtain ⟨v0, v1, d0, d1, p0, p1, rfl, rfl, rfl, h0, h1⟩ := trodAll_two hA
  obtain ⟨rfl, rfl⟩ := trodVars_none hV
  have h0k := h0
  have h1k := h1
  obtain ⟨fuel0, hf0⟩ := h0
  obtain ⟨fuel1, hf1⟩ := h1
  clear hA0 hval0 hsz0
  simp only [List.append_nil] at hW'
  have hlt : ∀ x ∈ p0 ++ p1, x.block < W.heap.size := fun x hx => hW'.lt x (by simpa using hx)
  obtain ⟨A, cap, rows, rfl, hr1, hr2⟩ := open_rune_rows (okWide_slice Try.underlying43 (hval 0 43 v0 rfl rfl)) hf0 hsz (j := 0) rfl rfl
  obtain ⟨A2, cap2, l, rfl, hl1, hl2, _, _, hl3⟩ := open_runes (okWide_slice Try.underlying36 (hval 1 36 v1 rfl rfl)) hf1
  have hll : l.length ≤ 140737488351232 := by
    rcases hl3 with ⟨_, h⟩ | ⟨a, b, h, h'⟩
    · omega
    · have := sized_slice hsz (j := 1) (t := 36) rfl (congrArg some h) Try.underlying36
      rw [Try.bytes21, reach_eq] at this
      omega
  refine (longest_law W A A2 cap cap2 rows l hr1 hl1 hll hl2 (by omega)).mono fun e W' ⟨he, hb⟩ => ?_
  subst he
  exact ⟨_, rfl, ⟨_, _, _, [], _, [], hW', trodAll_mk1 (shut_bool Try.underlying4 true), trodAll_mk2 (Below.trod Try.laidOut (by kernel_rfl) (of_decide_eq_true (by kernel_rfl)) h0k hb (fun x hx => hlt x (by simp [hx]))) (Below.trod Try.laidOut (by kernel_rfl) (of_decide_eq_true (by kernel_rfl)) h1k hb (fun x hx => hlt x (by simp [hx]))), rfl, hb.frame _, fun h => by cases h⟩⟩

theorem trieLongest_holds : Rows.TrieLongestSaid :=
  OpenClaim.holds_of_wide 4 Try.f4 rfl rfl rfl rfl rfl rfl rfl ⟨rfl, rfl, rfl, rfl, rfl⟩ rfl rfl rfl rfl rfl (by kernel_rfl) Try.func4 (by kernel_rfl)
    (of_decide_eq_true (by kernel_rfl)) (by unfold Func.isWrapper; first | (rw [if_pos (by decide +kernel)]; kernel_rfl) | (rw [if_neg (by decide +kernel)]; exact ⟨rfl, rfl⟩))
    (fun os started H enc _ => trieLongest_lifted os started H enc)
end Go.Proofs.Ytioflglfnalcaaa

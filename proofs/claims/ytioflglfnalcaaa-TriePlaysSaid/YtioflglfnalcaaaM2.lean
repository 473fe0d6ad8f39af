/- glossarylaw04.TriePlays returns true, whatever the calls, and its input reads as it did. No condition. (Part M2.) -/
import Derived.Test.YtioflglfnalcaaaM1
/- TriePlays: the document's Put. -/
namespace Go.Proofs.Ytioflglfnalcaaa
open Go.RowKit

theorem drop_cons {L : List RowT} {k : Nat} {x : RowT} (hx : L[k]? = some x) : L.drop k = x :: L.drop (k + 1) := by
  have hk := idx_lt hx
  rw [List.drop_eq_getElem_cons hk]
  rw [List.getElem?_eq_getElem hk] at hx
  injection hx with hx
  rw [hx]

/-- Put, k rows being over: O has been appended. -/
def PutJ (L : List RowT) (key : List Int) (n : Int) (O : List RowT) (k : Nat) (done was : Bool) : Prop :=
  O ++ putGo key n (L.drop k) done = putR L key n ∧ (was || (L.drop k).any fun x => decide (x.1 = key)) = hasR L key ∧ O.length ≤ k + (if done = true then 1 else 0)

section
variable {L O O' : List RowT} {key : List Int} {n : Int} {k : Nat} {done was done' was' : Bool}
theorem PutJ.start : PutJ L key n [] 0 false false := ⟨by simp [putR], by simp [hasR], by simp⟩
theorem PutJ.next (h : PutJ L key n O k done was) {x : RowT} (hx : L[k]? = some x) {sm ah : Bool} (hsm : decide (x.1 = key) = sm) (hah : (done || sm) = true ∨ ahead key x.1 = ah)
    (hp : O' = (if (!done && (sm || ah)) = true then [(key, n)] else []) ++ (if (!sm) = true then [x] else [])) (hd : done' = (done || (sm || ah))) (hw : was' = (was || sm)) :
    PutJ L key n (O ++ O') (k + 1) done' was' := by
  obtain ⟨h2, h3, h4⟩ := h
  rw [drop_cons hx] at h2 h3
  subst hsm
  have hah' : (decide (x.1 = key) || ahead key x.1) = (decide (x.1 = key) || ah) ∨ done = true := by
    rcases hah with h | h
    · cases done
      · simp only [Bool.false_or] at h
        rw [h]; exact .inl rfl
      · exact .inr rfl
    · rw [h]; exact .inl rfl
  refine ⟨?_, ?_, ?_⟩
  · rw [← h2, hp, hd]
    rcases hah' with h | h
    · simp [putGo, h]
    · simp [putGo, h]
  · rw [← h3, hw]; simp [Bool.or_assoc]
  · rw [hd, hp]
    simp only [List.length_append]
    revert h4
    cases done <;> cases decide (x.1 = key) <;> cases ah <;> simp <;> omega
end

theorem AppP.app {Z : Nat → Prop} {w2 wr W : World} {O : List RowT} {v : Value} (h : AppP Z w2.heap.size w2 O v wr) (hW : ∃ m, W = wr.drewN m) {x : RowT} {A : Option Addr} {cap : Nat}
    (hr : RdT w2 A x.1) (hz : ∀ ad, A = some ad → x.1 ≠ [] → Z ad.block) (hc : x.1.length ≤ cap) (hn : O.length ≤ 2600000000000) :
    ∃ v' w', (Builtin.append_ #[25, 25] 25 #[v, .slice (some ⟨wr.heap.size, 0, none⟩) 1 1]).run Try.prog (W.alloc (.cells #[.slice A x.1.length cap, .int .i64 x.2] 83)) = .ok v' w' ∧ AppP Z w2.heap.size w2 (O ++ [x]) v' w' := by
  obtain ⟨m, rfl⟩ := hW
  obtain ⟨⟨flat, ho, hf⟩, hB⟩ := h
  obtain ⟨v', w', h1, h2, h3⟩ := app_row (wr := wr.drewN m) ho hf hB.size (x := x) ((hr.new hB : RdT wr A x.1)) hz hc hn
  exact ⟨v', w', h1, h2, (below_drewN hB m).trans h3⟩

/-- The same beside the rows. -/
def PutI (Z : Nat → Prop) (w2 : World) (L : List RowT) (key : List Int) (n : Int) (k : Nat) (done was : Bool) (v : Value) (wr : World) : Prop :=
  ∃ O : List RowT, AppP Z w2.heap.size w2 O v wr ∧ PutJ L key n O k done was

set_option maxHeartbeats 4000000 in
set_option maxRecDepth 100000 in
theorem rput_i (w : World) (Z : Nat → Prop) (v : Value) (L : List RowT) (A : Option Addr) (cap : Nat) (key : List Int) (n : Int) (h : RefIs Z w v L) (hn : L.length ≤ 2550000000000) (hlen : ∀ x ∈ L, x.1.length ≤ 35184372087808) (ha : RdI w A key) (hkl : key.length ≤ 35184372087808) :
    Calls Try.prog 37 #[.agg #[v], .slice A key.length cap, .int .i64 n] w (NewRef2 Z w (putR L key n) (hasR L key)) := by
  obtain ⟨Av, cv, rfl⟩ := h.form
  obtain ⟨w0, hw0⟩ : ∃ w0, w0 = (w.alloc (.cells #[.slice Av L.length cv] 27)).alloc (.cells #[.slice none 0 0] 27) := ⟨_, rfl⟩
  have hb0 : Below w.heap.size w w0 := by rw [hw0]; exact ((Below.refl _ _).alloc (Nat.le_refl _) _).alloc (by simp) _
  have hbx : Boxed w0 w.heap.size 27 (.slice Av L.length cv) := by rw [hw0]; exact heap_alloc_old2 (heap_alloc_eq w (.cells #[.slice Av L.length cv] 27))
  have hbr : Boxed w0 (w.heap.size + 1) 27 (.slice none 0 0) := by
    have := heap_alloc_eq (w.alloc (.cells #[.slice Av L.length cv] 27)) (.cells #[.slice none 0 0] 27)
    rw [hw0]; simpa [Boxed] using this
  have Ha := Lib.hid (rdI_below ha hb0)
  have HR := Lib.hid ((h.new hb0).mono (Z' := fun j => Z j ∨ w.heap.size ≤ j) fun _ _ h => .inl h)
  have Hlen := Lib.hid hlen
  have Hbx := Lib.hid hbx
  have Hbr := Lib.hid hbr
  have hB0 := Lib.hid hb0
  have hsz : w0.heap.size = w.heap.size + 2 := by rw [hw0]; simp
  have hcp := Lib.hid (copy_i w0 A cap key (by omega) Ha.out)
  replace hw0 := Lib.hid hw0
  clear ha h hlen hb0 hbx hbr
  go_enter Try.func37, Try.ntmps37
  go_wp2_with fail
  rw [← hw0.out]
  clear hw0
  refine hcp.out.mono ?_
  rintro e w1 ⟨A2, c2, rfl, z1, z2, z3, z4, z5⟩
  obtain ⟨w2, hw2⟩ : ∃ w2, w2 = w1.alloc (.cells #[.slice A2 key.length c2, .int .i64 n] 83) := ⟨_, rfl⟩
  have hb2 : Below w1.heap.size w1 w2 := by rw [hw2]; exact (Below.refl _ _).alloc (Nat.le_refl _) _
  have hb02 : Below w0.heap.size w0 w2 := z5.trans (hb2.mono z5.size)
  have HR2 := Lib.hid (HR.out.new hb02)
  have Ha2 := Lib.hid (rdI_below Ha.out hb02)
  have hcb2 := Lib.hid (boxed_new Hbx.out hb02)
  have hbr2 := Lib.hid (boxed_new Hbr.out hb02)
  have hk2 := Lib.hid (z3.new hb2)
  have hkz : Hid (∀ ad, A2 = some ad → key ≠ [] → Z ad.block ∨ w.heap.size ≤ ad.block) := Lib.hid fun ad e _ => .inr (by have := (z4 ad e).1; omega)
  have hrow : Hid (w2.heap[w1.heap.size]? = some (.cells #[.slice A2 key.length c2, .int .i64 n] 83 (0, 0))) := Lib.hid (by rw [hw2]; exact heap_alloc_eq _ _)
  have hB2 := Lib.hid (hB0.out.trans (hb02.mono hB0.out.size))
  replace hw2 := Lib.hid hw2
  clear z2 z3 z4 z5 hb2 hb02 Hbx Hbr HR Ha hcp hB0
  go_wp2_with fail
  rw [← hw2.out]
  clear hw2
  generalize w1.heap.size = rb at *
  go_loopw [8, 10, 11, 12] (fun v d s i wr => ∃ (k : Nat) (done was : Bool), k ≤ L.length ∧ i = .int .i64 k ∧ d = .bool done ∧ s = .bool was ∧ Hid (PutI (fun j => Z j ∨ w.heap.size ≤ j) w2 L key n k done was v wr)) (fun _ _ _ i _ => L.length - (intOf i).toNat)
  case atStart => exact ⟨0, false, false, by omega, rfl, rfl, rfl, Lib.hid ⟨[], ⟨⟨[], World.ownsRow_nil _ _ _ _, fun i x h => by simp at h⟩, Below.refl _ _⟩, PutJ.start⟩⟩
  case round =>
    obtain ⟨k, done, was, hk, rfl, rfl, rfl, O, hA, hJ⟩ := hrel
    have hB := hA.2
    have hcb := (boxed_new hcb2.out hB).cell
    have hrw := (hB.block rb (lt_of_heap hrow.out)).trans hrow.out
    have hr0 : wr.cell? ⟨rb, 0, none⟩ = some (.slice A2 key.length c2) := by simp [World.cell?, hrw]
    have hr1 : wr.cell? ⟨rb, 1, none⟩ = some (.int .i64 n) := by simp [World.cell?, hrw]
    by_cases hlt : k < L.length
    · obtain ⟨x, hx⟩ : ∃ x, L[k]? = some x := ⟨L[k], by simp [hlt]⟩
      obtain ⟨g, B, c, rfl, hcw1, hcw2, hrdw, hxc, hxz⟩ := HR2.out.row hx
      have hc1 := (hB.cell (p := ⟨g, k * 2, none⟩) (cell_lt hcw1)).trans hcw1
      have hc2 := (hB.cell (p := ⟨g, k * 2 + 1, none⟩) (cell_lt hcw2)).trans hcw2
      have hxl := Hlen.out x (List.mem_of_getElem? hx)
      have hsame := Lib.hid (same_runes wr B A c cap x.1 key (by omega) (hrdw.new hB).rd (rdI_below Ha2.out hB))
      have hah := Lib.hid fun m => ahead_i (wr.drewN m) A B cap c key x.1 (by omega) (by omega) (rdI_below Ha2.out (below_drewN hB m)) (hrdw.new (below_drewN hB m)).rd
      have hOl : O.length ≤ 2550000000001 := by have := hJ.2.2; split at this <;> omega
      have g0 : (0 : Int) ≤ (k : Int) := by omega
      have g1 : (k : Int) < (L.length : Int) := by omega
      replace hA := Lib.hid hA
      replace hJ := Lib.hid hJ
      replace hB := Lib.hid hB
      replace hrdw := Lib.hid hrdw
      replace hcw1 := Lib.hid hcw1
      replace hcw2 := Lib.hid hcw2
      clear hrw
      cases hsm : decide (x.1 = key) with
      | true =>
        rw [hsm] at hsame
        cases done with
        | true =>
          cases was with
          | true =>
            have hN := PutJ.next (O' := [] ++ []) (done' := true) (was' := true) hJ.out hx hsm (ah := false) (.inl rfl) rfl rfl rfl
            replace hN := Lib.hid hN
            clear hx hsm
            generalize hxe : x.1.length = xl at hc1 hsame hah hxl
            replace hxe := Lib.hid hxe
            go_wp2_with fail
            refine hsame.out.mono ?_
            rintro e _ ⟨rfl, m, rfl⟩
            go_wp2
            go_roundw
            case rel => exact ⟨k + 1, true, true, by omega, by go_num, rfl, rfl, Lib.hid ⟨_, by rw [List.append_nil, List.append_nil]; exact ⟨hA.out.1, below_drewN hB.out _⟩, hN.out⟩⟩
            case measure => simp [intOf]; omega
          | false =>
            have hN := PutJ.next (O' := [] ++ []) (done' := true) (was' := true) hJ.out hx hsm (ah := false) (.inl rfl) rfl rfl rfl
            replace hN := Lib.hid hN
            clear hx hsm
            generalize hxe : x.1.length = xl at hc1 hsame hah hxl
            replace hxe := Lib.hid hxe
            go_wp2_with fail
            refine hsame.out.mono ?_
            rintro e _ ⟨rfl, m, rfl⟩
            go_wp2
            go_roundw
            case rel => exact ⟨k + 1, true, true, by omega, by go_num, rfl, rfl, Lib.hid ⟨_, by rw [List.append_nil, List.append_nil]; exact ⟨hA.out.1, below_drewN hB.out _⟩, hN.out⟩⟩
            case measure => simp [intOf]; omega
        | false =>
          cases was with
          | true =>
            have hN := PutJ.next (O' := [(key, n)] ++ []) (done' := true) (was' := true) hJ.out hx hsm (ah := false) (.inl rfl) rfl rfl rfl
            replace hN := Lib.hid hN
            clear hx hsm
            generalize hxe : x.1.length = xl at hc1 hsame hah hxl
            replace hxe := Lib.hid hxe
            go_wp2_with fail
            refine hsame.out.mono ?_
            rintro e _ ⟨rfl, m, rfl⟩
            obtain ⟨v1, W1, hrun1, hA1⟩ := hA.out.app (W := wr.drewN m) ⟨m, rfl⟩ (x := (key, n)) hk2.out hkz.out z1 (by omega)
            replace hrun1 := Lib.hid hrun1
            replace hA1 := Lib.hid hA1
            go_wp2_with (at_builtin; refine wpList_append_run rfl (.tmp 52) (.tmp 54) 25 rfl rfl rfl hrun1.out ?_)
            go_roundw
            case rel => exact ⟨k + 1, true, true, by omega, by go_num, rfl, rfl, Lib.hid ⟨_, hA1.out, hN.out⟩⟩
            case measure => simp [intOf]; omega
          | false =>
            have hN := PutJ.next (O' := [(key, n)] ++ []) (done' := true) (was' := true) hJ.out hx hsm (ah := false) (.inl rfl) rfl rfl rfl
            replace hN := Lib.hid hN
            clear hx hsm
            generalize hxe : x.1.length = xl at hc1 hsame hah hxl
            replace hxe := Lib.hid hxe
            go_wp2_with fail
            refine hsame.out.mono ?_
            rintro e _ ⟨rfl, m, rfl⟩
            obtain ⟨v1, W1, hrun1, hA1⟩ := hA.out.app (W := wr.drewN m) ⟨m, rfl⟩ (x := (key, n)) hk2.out hkz.out z1 (by omega)
            replace hrun1 := Lib.hid hrun1
            replace hA1 := Lib.hid hA1
            go_wp2_with (at_builtin; refine wpList_append_run rfl (.tmp 52) (.tmp 54) 25 rfl rfl rfl hrun1.out ?_)
            go_roundw
            case rel => exact ⟨k + 1, true, true, by omega, by go_num, rfl, rfl, Lib.hid ⟨_, hA1.out, hN.out⟩⟩
            case measure => simp [intOf]; omega
      | false =>
        rw [hsm] at hsame
        cases done with
        | true =>
          cases was with
          | true =>
            have hN := PutJ.next (O' := [] ++ [x]) (done' := true) (was' := true) hJ.out hx hsm (ah := false) (.inl rfl) rfl rfl rfl
            replace hN := Lib.hid hN
            clear hx hsm
            generalize hxe : x.1.length = xl at hc1 hsame hah hxl
            replace hxe := Lib.hid hxe
            go_wp2_with fail
            refine hsame.out.mono ?_
            rintro e _ ⟨rfl, m, rfl⟩
            obtain ⟨v2, W2, hrun2, hA2⟩ := hA.out.app (W := wr.drewN m) ⟨m, rfl⟩ (x := x) hrdw.out hxz hxc (by omega)
            replace hrun2 := Lib.hid hrun2
            have hxe2 := hxe.out
            rw [hxe2] at hrun2
            clear hxe2
            replace hA2 := Lib.hid hA2
            go_wp2_with (at_builtin; refine wpList_append_run rfl (.tmp 58) (.tmp 64) 25 rfl rfl rfl hrun2.out ?_)
            go_roundw
            case rel => exact ⟨k + 1, true, true, by omega, by go_num, rfl, rfl, Lib.hid ⟨_, hA2.out, hN.out⟩⟩
            case measure => simp [intOf]; omega
          | false =>
            have hN := PutJ.next (O' := [] ++ [x]) (done' := true) (was' := false) hJ.out hx hsm (ah := false) (.inl rfl) rfl rfl rfl
            replace hN := Lib.hid hN
            clear hx hsm
            generalize hxe : x.1.length = xl at hc1 hsame hah hxl
            replace hxe := Lib.hid hxe
            go_wp2_with fail
            refine hsame.out.mono ?_
            rintro e _ ⟨rfl, m, rfl⟩
            obtain ⟨v2, W2, hrun2, hA2⟩ := hA.out.app (W := wr.drewN m) ⟨m, rfl⟩ (x := x) hrdw.out hxz hxc (by omega)
            replace hrun2 := Lib.hid hrun2
            have hxe2 := hxe.out
            rw [hxe2] at hrun2
            clear hxe2
            replace hA2 := Lib.hid hA2
            go_wp2_with (at_builtin; refine wpList_append_run rfl (.tmp 58) (.tmp 64) 25 rfl rfl rfl hrun2.out ?_)
            go_roundw
            case rel => exact ⟨k + 1, true, false, by omega, by go_num, rfl, rfl, Lib.hid ⟨_, hA2.out, hN.out⟩⟩
            case measure => simp [intOf]; omega
        | false =>
          cases hahd : ahead key x.1 with
          | true =>
            cases was with
            | true =>
              have hN := PutJ.next (O' := [(key, n)] ++ [x]) (done' := true) (was' := true) hJ.out hx hsm (ah := true) (.inr hahd) rfl rfl rfl
              replace hN := Lib.hid hN
              rw [hahd] at hah
              clear hx hsm
              generalize hxe : x.1.length = xl at hc1 hsame hah hxl
              replace hxe := Lib.hid hxe
              go_wp2_with fail
              refine hsame.out.mono ?_
              rintro e _ ⟨rfl, m, rfl⟩
              go_wp2_with fail
              refine (hah.out m).mono ?_
              rintro e _ ⟨rfl, m2, rfl⟩
              obtain ⟨v1, W1, hrun1, hA1⟩ := hA.out.app (W := wr.drewN (m + m2)) ⟨m + m2, rfl⟩ (x := (key, n)) hk2.out hkz.out z1 (by omega)
              replace hrun1 := Lib.hid hrun1
              have hB1 := hA1.2
              have hd1 := (hB1.cell (p := ⟨g, k * 2, none⟩) (cell_lt hcw1.out)).trans hcw1.out
              have hd2 := (hB1.cell (p := ⟨g, k * 2 + 1, none⟩) (cell_lt hcw2.out)).trans hcw2.out
              have hdb := (boxed_new hcb2.out hB1).cell
              obtain ⟨v2, W2, hrun2, hA2⟩ := hA1.app (W := W1) ⟨0, rfl⟩ (x := x) hrdw.out hxz hxc (by simp only [List.length_append, List.length_cons, List.length_nil]; omega)
              replace hrun2 := Lib.hid hrun2
              have hxe2 := hxe.out
              rw [hxe2] at hrun2 hd1
              clear hxe2
              replace hA2 := Lib.hid hA2
              clear hB1
              replace hA1 := Lib.hid hA1
              go_wp2_with (at_builtin; first | refine wpList_append_run rfl (.tmp 52) (.tmp 54) 25 rfl rfl rfl hrun1.out ?_ | refine wpList_append_run rfl (.tmp 58) (.tmp 64) 25 rfl rfl rfl hrun2.out ?_)
              go_roundw
              case rel => exact ⟨k + 1, true, true, by omega, by go_num, rfl, rfl, Lib.hid ⟨_, by have := hA2.out; rwa [List.append_assoc] at this, hN.out⟩⟩
              case measure => simp [intOf]; omega
            | false =>
              have hN := PutJ.next (O' := [(key, n)] ++ [x]) (done' := true) (was' := false) hJ.out hx hsm (ah := true) (.inr hahd) rfl rfl rfl
              replace hN := Lib.hid hN
              rw [hahd] at hah
              clear hx hsm
              generalize hxe : x.1.length = xl at hc1 hsame hah hxl
              replace hxe := Lib.hid hxe
              go_wp2_with fail
              refine hsame.out.mono ?_
              rintro e _ ⟨rfl, m, rfl⟩
              go_wp2_with fail
              refine (hah.out m).mono ?_
              rintro e _ ⟨rfl, m2, rfl⟩
              obtain ⟨v1, W1, hrun1, hA1⟩ := hA.out.app (W := wr.drewN (m + m2)) ⟨m + m2, rfl⟩ (x := (key, n)) hk2.out hkz.out z1 (by omega)
              replace hrun1 := Lib.hid hrun1
              have hB1 := hA1.2
              have hd1 := (hB1.cell (p := ⟨g, k * 2, none⟩) (cell_lt hcw1.out)).trans hcw1.out
              have hd2 := (hB1.cell (p := ⟨g, k * 2 + 1, none⟩) (cell_lt hcw2.out)).trans hcw2.out
              have hdb := (boxed_new hcb2.out hB1).cell
              obtain ⟨v2, W2, hrun2, hA2⟩ := hA1.app (W := W1) ⟨0, rfl⟩ (x := x) hrdw.out hxz hxc (by simp only [List.length_append, List.length_cons, List.length_nil]; omega)
              replace hrun2 := Lib.hid hrun2
              have hxe2 := hxe.out
              rw [hxe2] at hrun2 hd1
              clear hxe2
              replace hA2 := Lib.hid hA2
              clear hB1
              replace hA1 := Lib.hid hA1
              go_wp2_with (at_builtin; first | refine wpList_append_run rfl (.tmp 52) (.tmp 54) 25 rfl rfl rfl hrun1.out ?_ | refine wpList_append_run rfl (.tmp 58) (.tmp 64) 25 rfl rfl rfl hrun2.out ?_)
              go_roundw
              case rel => exact ⟨k + 1, true, false, by omega, by go_num, rfl, rfl, Lib.hid ⟨_, by have := hA2.out; rwa [List.append_assoc] at this, hN.out⟩⟩
              case measure => simp [intOf]; omega
          | false =>
            cases was with
            | true =>
              have hN := PutJ.next (O' := [] ++ [x]) (done' := false) (was' := true) hJ.out hx hsm (ah := false) (.inr hahd) rfl rfl rfl
              replace hN := Lib.hid hN
              rw [hahd] at hah
              clear hx hsm
              generalize hxe : x.1.length = xl at hc1 hsame hah hxl
              replace hxe := Lib.hid hxe
              go_wp2_with fail
              refine hsame.out.mono ?_
              rintro e _ ⟨rfl, m, rfl⟩
              go_wp2_with fail
              refine (hah.out m).mono ?_
              rintro e _ ⟨rfl, m2, rfl⟩
              obtain ⟨v2, W2, hrun2, hA2⟩ := hA.out.app (W := wr.drewN (m + m2)) ⟨m + m2, rfl⟩ (x := x) hrdw.out hxz hxc (by omega)
              replace hrun2 := Lib.hid hrun2
              have hxe2 := hxe.out
              rw [hxe2] at hrun2
              clear hxe2
              replace hA2 := Lib.hid hA2
              go_wp2_with (at_builtin; refine wpList_append_run rfl (.tmp 58) (.tmp 64) 25 rfl rfl rfl hrun2.out ?_)
              go_roundw
              case rel => exact ⟨k + 1, false, true, by omega, by go_num, rfl, rfl, Lib.hid ⟨_, hA2.out, hN.out⟩⟩
              case measure => simp [intOf]; omega
            | false =>
              have hN := PutJ.next (O' := [] ++ [x]) (done' := false) (was' := false) hJ.out hx hsm (ah := false) (.inr hahd) rfl rfl rfl
              replace hN := Lib.hid hN
              rw [hahd] at hah
              clear hx hsm
              generalize hxe : x.1.length = xl at hc1 hsame hah hxl
              replace hxe := Lib.hid hxe
              go_wp2_with fail
              refine hsame.out.mono ?_
              rintro e _ ⟨rfl, m, rfl⟩
              go_wp2_with fail
              refine (hah.out m).mono ?_
              rintro e _ ⟨rfl, m2, rfl⟩
              obtain ⟨v2, W2, hrun2, hA2⟩ := hA.out.app (W := wr.drewN (m + m2)) ⟨m + m2, rfl⟩ (x := x) hrdw.out hxz hxc (by omega)
              replace hrun2 := Lib.hid hrun2
              have hxe2 := hxe.out
              rw [hxe2] at hrun2
              clear hxe2
              replace hA2 := Lib.hid hA2
              go_wp2_with (at_builtin; refine wpList_append_run rfl (.tmp 58) (.tmp 64) 25 rfl rfl rfl hrun2.out ?_)
              go_roundw
              case rel => exact ⟨k + 1, false, false, by omega, by go_num, rfl, rfl, Lib.hid ⟨_, hA2.out, hN.out⟩⟩
              case measure => simp [intOf]; omega
    · have e : k = L.length := by omega
      subst e
      obtain ⟨j1, j2, j3⟩ := hJ
      rw [List.drop_length] at j1 j2
      simp only [List.any_nil, Bool.or_false] at j2
      subst j2
      have hOl : O.length ≤ 2550000000001 := by split at j3 <;> omega
      have hret : Hid (∀ O' v' W, AppP (fun j => Z j ∨ w.heap.size ≤ j) w2.heap.size w2 O' v' W → O' = putR L key n → Boxed W (w.heap.size + 1) 27 (.slice none 0 0) ∧
          NewRef2 Z w (putR L key n) (hasR L key) (.returned (.tuple #[.agg #[v'], .bool (hasR L key)])) (W.setCell ⟨w.heap.size + 1, 0, none⟩ v') ∧ (W.setCell ⟨w.heap.size + 1, 0, none⟩ v').cell? ⟨w.heap.size + 1, 0, none⟩ = some v') := by
        refine Lib.hid ?_
        rintro O' v' W ⟨⟨flat, ho, hfl⟩, hW⟩ rfl
        have hbr1 := boxed_new hbr2.out hW
        have hF : Fr (fun j => j = w.heap.size + 1) W (W.setCell ⟨w.heap.size + 1, 0, none⟩ v') := (Fr.refl (fun j => j = w.heap.size + 1) W).setCell (p := ⟨w.heap.size + 1, 0, none⟩) (.inl rfl) _
        have hBW := hB2.out.trans (hW.mono hB2.out.size)
        refine ⟨hbr1, ⟨_, rfl, ?_, hBW.trans (hF.below hBW.size fun j hj => by omega)⟩, (hbr1.set _).cell⟩
        refine RefIs.frame (w := W) ⟨flat, World.ownsRow.mono ho (Nat.zero_le _), hfl, fun g e => .inr (by have := (ho.lt g e).1; have := hB2.out.size; omega)⟩ hF fun j c t f hS hj => ?_
        subst hS
        rw [hbr1] at hj
        injection hj with hj
        injection hj with _ hj
        rw [← hj]
        intro h
        rcases h with h | h <;> cases h
      replace hA := Lib.hid hA
      cases done with
      | true =>
        have j1' : O = putR L key n := by simpa [putGo] using j1
        obtain ⟨A8, c8, rfl⟩ : ∃ A c, u8 = .slice A O.length c := by
          obtain ⟨⟨flat, ho, _⟩, _⟩ := hA.out
          exact own_form ho
        obtain ⟨q1, q2, q3⟩ := hret.out O _ wr hA.out j1'
        have ccr := q1.cell
        have fcr := q1.frozen
        replace q2 := Lib.hid q2
        replace q3 := Lib.hid q3
        clear hret q1 j1 j1' j3 hr0 hr1 hrw hB hA
        go_wp2
        try simp only [Exit.inBlock, Exit.then]
        refine bodyPost_ret (results_cell_tmp rfl rfl rfl q3.out) rfl ?_
        exact q2.out
      | false =>
        have j1' : O ++ [(key, n)] = putR L key n := by simpa [putGo] using j1
        obtain ⟨v1, W1, hrun1, hA1⟩ := hA.out.app (W := wr) ⟨0, rfl⟩ (x := (key, n)) hk2.out hkz.out z1 (by omega)
        obtain ⟨A8, c8, rfl⟩ : ∃ A c, v1 = .slice A (O.length + 1) c := by
          obtain ⟨⟨flat, ho, _⟩, _⟩ := hA1
          have := own_form ho
          simpa using this
        obtain ⟨q1, q2, q3⟩ := hret.out _ _ W1 hA1 j1'
        have ccr := q1.cell
        have fcr := q1.frozen
        replace hrun1 := Lib.hid hrun1
        replace q2 := Lib.hid q2
        replace q3 := Lib.hid q3
        clear hret q1 j1 j1' j3 hrw hB hA hA1
        go_wp2_with (at_builtin; refine wpList_append_run rfl (.tmp 68) (.tmp 70) 25 rfl rfl rfl hrun1.out ?_)
        try simp only [Exit.inBlock, Exit.then]
        refine bodyPost_ret (results_cell_tmp rfl rfl rfl q3.out) rfl ?_
        exact q2.out
end Go.Proofs.Ytioflglfnalcaaa

/- TriePlays: what is lent and kept; spoil; is. -/
namespace Go.Proofs.Ytioflglfnalcaaa
open Go.RowKit

/-- The numbers behind what is lent. -/
def marks (k : Nat) : List Int := (List.range k).map fun (i : Nat) => -91000 - (i : Int)
theorem marks_succ (k : Nat) : marks (k + 1) = marks k ++ [-91000 - (k : Int)] := by simp [marks, List.range_succ]
theorem marks_length (k : Nat) : (marks k).length = k := by simp [marks]

def MarkP (w : World) (j : Int) (e : Ending) (w' : World) : Prop := w' = w ∧ ∃ r, e = .returned (.int .i32 r) ∧ (0 ≤ j → j < 16 → r = -91000 - j)
set_option maxHeartbeats 400000 in
theorem mark_i (w : World) (j : Int) : Calls Try.prog 65 #[.int .i64 90, .int .i64 j] w (MarkP w j) := by
  go_enter Try.func65, Try.ntmps65
  go_wp2
  go_ret
  refine ⟨rfl, _, rfl, fun h0 h1 => ?_⟩
  obtain ⟨n, rfl⟩ := Int.eq_ofNat_of_zero_le h0
  rcases (by omega : n = 0 ∨ n = 1 ∨ n = 2 ∨ n = 3 ∨ n = 4 ∨ n = 5 ∨ n = 6 ∨ n = 7 ∨ n = 8 ∨ n = 9 ∨ n = 10 ∨ n = 11 ∨ n = 12 ∨ n = 13 ∨ n = 14 ∨ n = 15) with rfl | rfl | rfl | rfl | rfl | rfl | rfl | rfl | rfl | rfl | rfl | rfl | rfl | rfl | rfl | rfl <;> kernel_rfl

set_option maxHeartbeats 1000000 in
set_option maxRecDepth 100000 in
theorem full_i (w : World) (A : Option Addr) (cap : Nat) (zs : List Int) (hlen : zs.length ≤ 35184372088000) (ha : RdI w A zs) :
    Calls Try.prog 54 #[.slice A zs.length cap] w (fun e w' => ∃ v, e = .returned v ∧ w'.ownsRow w.heap.size 21 1 v (zs.length + 16) ((zs ++ marks 16).map enc32) ∧ Below w.heap.size w w') := by
  obtain ⟨i0, hi, hz0, hz1, hz2⟩ := info_parts info21
  have Ha := Lib.hid ha
  clear ha
  go_enter Try.func54, Try.ntmps54
  go_wp2
  go_loopw [3, 4] (fun v i wr => ∃ k : Nat, k ≤ zs.length ∧ i = .int .i64 k ∧ Hid (wr.ownsRow w.heap.size 21 1 v k ((zs.take k).map enc32)) ∧ Hid (Below w.heap.size w wr)) (fun v i _ => zs.length - (intOf i).toNat)
  case atStart => exact ⟨0, Nat.zero_le _, rfl, Lib.hid (World.ownsRow_nil _ _ _ _), Below.refl _ _⟩
  case round =>
    obtain ⟨k, hk, rfl, hO, hB⟩ := hrel
    by_cases hlt : k < zs.length
    · obtain ⟨ab, off, rfl, hc⟩ := Ha.out k hlt
      have hc' := (hB.out.cell (p := ⟨ab, off + k, none⟩) (cell_lt hc)).trans hc
      have ht : (zs.take (k + 1)).map enc32 = (zs.take k).map enc32 ++ [.int .i32 (zs.getD k 0)] := by rw [take_getD hlt]; simp [enc32]
      obtain ⟨v', w', hrun, hown, hgrow, _⟩ := run_append_own (P := Try.prog) (wr.alloc (.cells #[.int .i32 (zs.getD k 0)] 21)) w.heap.size 36 36 21 i0 (.int .i32 0) 1 4 Try.underlying36 hi hz0 hz1 hz2 rfl (by decide) _ k _ (hO.out.alloc _) ⟨wr.heap.size, 0, none⟩ 1 1 [.int .i32 (zs.getD k 0)]
        rfl (World.news_of_block (cs := #[.int .i32 (zs.getD k 0)]) (heap_alloc_eq wr _)) (by simp [Value.oneCell']) (by unfold maxLen; omega) (by omega) (by have := hB.out.size; simp; omega)
      have hO2 : Hid (w'.ownsRow w.heap.size 21 1 v' (k + 1) ((zs.take (k + 1)).map enc32)) := by unfold Hid; rw [ht]; exact hown
      have hB2 : Hid (Below w.heap.size w w') := (hB.out.alloc (by exact hB.out.size) _).grown hgrow (by have := hB.out.size; simp; omega) (fun j e => (own_lt hO.out e).2.1)
      replace hrun := Lib.hid hrun
      clear hc hown hgrow ht hi hz0 hz1 hz2
      generalize zs.getD k 0 = x at *
      have g0 : (0 : Int) ≤ (k : Int) := by omega
      have g1 : (k : Int) < (zs.length : Int) := by omega
      go_wp2_with (at_builtin; refine wpList_append_run rfl (.tmp 12) (.tmp 17) 36 rfl rfl rfl hrun.out ?_)
      go_roundw
      case rel => exact ⟨k + 1, by omega, by go_num, hO2, hB2⟩
      case measure => simp [intOf]; omega
    · have e : k = zs.length := by omega
      subst e
      rw [List.take_length] at hO
      go_wp2
      go_loopw [3, 5] (fun v i wr => ∃ k : Nat, k ≤ 16 ∧ i = .int .i64 k ∧ Hid (wr.ownsRow w.heap.size 21 1 v (zs.length + k) ((zs ++ marks k).map enc32)) ∧ Hid (Below w.heap.size w wr)) (fun v i _ => 16 - (intOf i).toNat)
      case atStart => exact ⟨0, Nat.zero_le _, rfl, by simpa [marks, Hid] using hO.out, hB⟩
      case round =>
        rename World => wi
        clear hO hB
        obtain ⟨k, hk, rfl, hO, hB⟩ := hrel
        by_cases hlt : k < 16
        · have hm := Lib.hid (mark_i wi (k : Int))
          have ht : ((zs ++ marks (k + 1)).map enc32) = ((zs ++ marks k).map enc32) ++ [.int .i32 (-91000 - (k : Int))] := by rw [marks_succ]; simp [enc32]
          obtain ⟨v', w', hrun, hown, hgrow, _⟩ := run_append_own (P := Try.prog) (wi.alloc (.cells #[.int .i32 (-91000 - (k : Int))] 21)) w.heap.size 36 36 21 i0 (.int .i32 0) 1 4 Try.underlying36 hi hz0 hz1 hz2 rfl (by decide) _ _ _ (hO.out.alloc _) ⟨wi.heap.size, 0, none⟩ 1 1 [.int .i32 (-91000 - (k : Int))]
            rfl (World.news_of_block (cs := #[.int .i32 (-91000 - (k : Int))]) (heap_alloc_eq wi _)) (by simp [Value.oneCell']) (by unfold maxLen; omega) (by omega) (by have := hB.out.size; simp; omega)
          have hO2 : Hid (w'.ownsRow w.heap.size 21 1 v' (zs.length + (k + 1)) ((zs ++ marks (k + 1)).map enc32)) := by unfold Hid; rw [ht]; exact hown
          have hB2 : Hid (Below w.heap.size w w') := (hB.out.alloc (by exact hB.out.size) _).grown hgrow (by have := hB.out.size; simp; omega) (fun j e => (own_lt hO.out e).2.1)
          replace hrun := Lib.hid hrun
          clear hown hgrow ht hi hz0 hz1 hz2 hO hB
          have g1 : (k : Int) < 16 := by omega
          go_wp2_with fail
          refine hm.out.mono ?_
          rintro e _ ⟨rfl, r, rfl, hr⟩
          obtain rfl := hr (by omega) (by omega)
          go_wp2_with (at_builtin; refine wpList_append_run rfl (.tmp 23) (.tmp 26) 36 rfl rfl rfl hrun.out ?_)
          go_roundw
          case rel => exact ⟨k + 1, by omega, by go_num, hO2, hB2⟩
          case measure => simp [intOf]; omega
        · have e : k = 16 := by omega
          subst e
          have hfin := Lib.hid (⟨_, rfl, hO.out, hB.out⟩ : ∃ v, Ending.returned u3 = .returned v ∧ wi.ownsRow w.heap.size 21 1 v (zs.length + 16) ((zs ++ marks 16).map enc32) ∧ Below w.heap.size w wi)
          go_wp2
          go_ret
          exact hfin.out

/-- What LentRunes hands out. -/
def LentP (w : World) (zs : List Int) (e : Ending) (w' : World) : Prop :=
  ∃ g cap, e = .returned (.slice (some ⟨g, 0, none⟩) zs.length cap) ∧ zs.length + 16 ≤ cap ∧ w'.ownsRow w.heap.size 21 1 (.slice (some ⟨g, 0, none⟩) (zs.length + 16) cap) (zs.length + 16) ((zs ++ marks 16).map enc32) ∧ Below w.heap.size w w'
set_option maxHeartbeats 400000 in
theorem lent_i (w : World) (A : Option Addr) (cap : Nat) (zs : List Int) (hlen : zs.length ≤ 35184372088000) (ha : RdI w A zs) :
    Calls Try.prog 36 #[.slice A zs.length cap] w (LentP w zs) := by
  have hf := Lib.hid (full_i w A cap zs hlen ha)
  clear ha
  go_enter Try.func36, Try.ntmps36
  go_wp2_with fail
  refine hf.out.mono ?_
  rintro e w1 ⟨v, rfl, ho, hB⟩
  obtain ⟨g, c, rfl, hc⟩ : ∃ g c, v = .slice (some ⟨g, 0, none⟩) (zs.length + 16) c ∧ zs.length + 16 ≤ c := by
    rcases ho.2 with ⟨_, h0⟩ | ⟨g, c, cur, h1, _, _, hc, _⟩
    · omega
    · exact ⟨g, c, h1, hc⟩
  have hfin : Hid (LentP w zs (.returned (.slice (some ⟨g, 0, none⟩) zs.length c)) w1) := Lib.hid ⟨g, c, rfl, hc, ho, hB⟩
  have h1 : (zs.length : Int) ≤ (c : Int) := by omega
  have h2 : zs.length ≤ c := by omega
  clear ho hB hf
  go_wp2
  go_ret
  exact hfin.out

theorem full_getD {zs : List Int} {k : Nat} : (zs ++ marks 16).getD k 0 = if k < zs.length then zs.getD k 0 else (marks 16).getD (k - zs.length) 0 := by
  simp only [List.getD]
  split
  · rename_i h; rw [List.getElem?_append_left h]
  · rename_i h; rw [List.getElem?_append_right (by omega)]
theorem marks_getD {j : Nat} (h : j < 16) : (marks 16).getD j 0 = -91000 - (j : Int) := by
  simp [marks, List.getD, h]

set_option maxHeartbeats 1000000 in
set_option maxRecDepth 100000 in
theorem keptfull_i (w : World) (A B : Option Addr) (ca cb : Nat) (zs : List Int) (hlen : zs.length ≤ 35184372088000) (ha : RdI w A (zs ++ marks 16)) (hb : RdI w B zs) :
    Calls Try.prog 60 #[.slice A (zs.length + 16) ca, .slice B zs.length cb] w fun e w' => e = .returned (.bool true) ∧ w = w' := by
  have Ha := Lib.hid ha
  have Hb := Lib.hid hb
  have e0 : (((zs.length + 16 : Nat) : Int) != (zs.length : Int) + 16) = false := by simp
  have e1 : ((zs.length + 16 : Nat) : Int) = (zs.length : Int) + 16 := by omega
  clear ha hb
  go_enter Try.func60, Try.ntmps60
  go_wp2
  go_loopw [5] (fun i wr => ∃ k : Nat, k ≤ zs.length + 16 ∧ i = .int .i64 k ∧ w = wr) (fun i _ => zs.length + 16 - (intOf i).toNat)
  case atStart => exact ⟨0, by omega, rfl, rfl⟩
  case round =>
    obtain ⟨k, hk, rfl, rfl⟩ := hrel
    by_cases hlt : k < zs.length + 16
    · obtain ⟨ab, off, rfl, hc⟩ := Ha.out k (by simp [marks_length]; exact hlt)
      rw [full_getD] at hc
      have hm := Lib.hid (mark_i w ((k : Int) - (zs.length : Int)))
      have g0 : (0 : Int) ≤ (k : Int) := by omega
      have g1 : (k : Int) < ((zs.length + 16 : Nat) : Int) := by omega
      have g1' : (k : Int) < (zs.length : Int) + 16 := by omega
      by_cases hz : k < zs.length
      · obtain ⟨bb, off2, rfl, hd⟩ := Hb.out k hz
        rw [if_pos hz] at hc
        have g2 : (k : Int) < (zs.length : Int) := by omega
        have hbb : (zs.getD k 0 != zs.getD k 0) = false := by simp
        generalize zs.getD k 0 = r at hc hd hbb
        go_wp2_with fail
        refine hm.out.mono ?_
        rintro e _ ⟨rfl, r', rfl, -⟩
        go_wp2
        go_roundw
        case rel => exact ⟨k + 1, by omega, by go_num, (by first | rfl | trivial)⟩
        case measure => simp [intOf]; omega
      · rw [if_neg hz, marks_getD (by omega)] at hc
        have e2 : -91000 - ((k - zs.length : Nat) : Int) = -91000 - ((k : Int) - (zs.length : Int)) := by omega
        rw [e2] at hc
        have g2 : decide ((k : Int) < (zs.length : Int)) = false := by simp; omega
        have g3 : ¬ (k : Int) < (zs.length : Int) := by omega
        have hbb : (-91000 - ((k : Int) - (zs.length : Int)) != -91000 - ((k : Int) - (zs.length : Int))) = false := by simp
        clear e2
        go_wp2_with fail
        refine hm.out.mono ?_
        rintro e _ ⟨rfl, r', rfl, hr⟩
        obtain rfl := hr (by omega) (by omega)
        go_wp2
        go_roundw
        case rel => exact ⟨k + 1, by omega, by go_num, (by first | rfl | trivial)⟩
        case measure => simp [intOf]; omega
    · have e : k = zs.length + 16 := by omega
      subst e
      go_wp2
      go_ret
      exact ⟨rfl, rfl⟩

set_option maxHeartbeats 400000 in
theorem kept_i (w : World) (A B : Option Addr) (ca cb : Nat) (zs : List Int) (hlen : zs.length ≤ 35184372088000) (hcap : zs.length + 16 ≤ ca) (ha : RdI w A (zs ++ marks 16)) (hb : RdI w B zs) :
    Calls Try.prog 42 #[.slice A zs.length ca, .slice B zs.length cb] w fun e w' => e = .returned (.bool true) ∧ w = w' := by
  have hf := Lib.hid (keptfull_i w A B ca cb zs hlen ha hb)
  have e0 : ((zs.length : Int) != (zs.length : Int)) = false := by simp
  have h1 : (zs.length : Int) + 16 ≤ (ca : Int) := by omega
  have h2 : zs.length + 16 ≤ ca := hcap
  clear ha hb
  go_enter Try.func42, Try.ntmps42
  go_wp2_with fail
  refine hf.out.mono ?_
  rintro e _ ⟨rfl, rfl⟩
  go_wp2
  go_ret
  exact ⟨rfl, rfl⟩

/-- A row written over, and one number more behind it: nothing but its block turns. -/
def SpoilP (v : Value) (w : World) (e : Ending) (w' : World) : Prop := e = .returned (.bool true) ∧ Fr (fun j => v.ownBlock = some j) w w'

set_option maxHeartbeats 1000000 in
set_option maxRecDepth 100000 in
theorem spoil_i (w : World) (B n : Nat) (v : Value) (xs : List Value) (h : w.ownsRow B 21 1 v n xs) (hB : B ≤ w.heap.size) (hn : n ≤ 35184372088000) :
    Calls Try.prog 59 #[v] w (SpoilP v w) := by
  obtain ⟨i0, hi, hz0, hz1, hz2⟩ := info_parts info21
  obtain ⟨A, cap, rfl⟩ := own_form h
  have H := Lib.hid h
  go_enter Try.func59, Try.ntmps59
  go_wp2
  go_loopw [3] (fun i wr => ∃ k : Nat, k ≤ n ∧ i = .int .i64 k ∧ Hid (∃ ys, wr.ownsRow B 21 1 (.slice A n cap) n ys) ∧ Hid (Fr (fun j => (Value.slice A n cap).ownBlock = some j) w wr)) (fun i _ => n - (intOf i).toNat)
  case atStart => exact ⟨0, by omega, rfl, ⟨xs, h⟩, Fr.refl _ _⟩
  case round =>
    clear h H
    obtain ⟨k, hk, rfl, hO, hF⟩ := hrel
    obtain ⟨ys, ho⟩ := hO.out
    by_cases hlt : k < n
    · obtain ⟨g, rfl⟩ : ∃ g, A = some ⟨g, 0, none⟩ := by
        rcases ho.2 with ⟨_, h0⟩ | ⟨g, c, cur, h1, _⟩
        · omega
        · injection h1 with h1; exact ⟨g, h1⟩
      have hc := ho.cellAt k (by omega)
      have hyl : ys.length = n := by have := ho.1; omega
      obtain ⟨u, hu⟩ : ∃ u, ys[k]? = some u := ⟨ys[k], by simp [hyl, hlt]⟩
      rw [hu] at hc
      have hfz := ho.frozenAt k
      have ho2 := (ho.stored k (.int .i32 (-99))).1
      have H1 : Hid (∃ ys, (wr.setCell ⟨g, k, none⟩ (.int .i32 (-99))).ownsRow B 21 1 (.slice (some ⟨g, 0, none⟩) n cap) n ys) := Lib.hid ⟨_, ho2⟩
      have H2 : Hid (Fr (fun j => (Value.slice (some ⟨g, 0, none⟩) n cap).ownBlock = some j) w (wr.setCell ⟨g, k, none⟩ (.int .i32 (-99)))) := Lib.hid (hF.out.setCell (p := ⟨g, k, none⟩) (.inl rfl) _)
      have g0 : (0 : Int) ≤ (k : Int) := by omega
      have g1 : (k : Int) < (n : Int) := by omega
      clear ho hO hF hu ho2 hyl
      go_wp2
      go_roundw
      case rel => exact ⟨k + 1, by omega, by go_num, H1, H2⟩
      case measure => simp [intOf]; omega
    · have e : k = n := by omega
      subst e
      have hB2 : B ≤ wr.heap.size := Nat.le_trans hB hF.out.size
      obtain ⟨v', w', hrun, hown, hgrow, _⟩ := run_append_own (P := Try.prog) (wr.alloc (.cells #[.int .i32 (-98)] 21)) B 36 36 21 i0 (.int .i32 0) 1 4 Try.underlying36 hi hz0 hz1 hz2 rfl (by decide) _ _ _ (ho.alloc _) ⟨wr.heap.size, 0, none⟩ 1 1 [.int .i32 (-98)]
        rfl (World.news_of_block (cs := #[.int .i32 (-98)]) (heap_alloc_eq wr _)) (by simp [Value.oneCell']) (by unfold maxLen; omega) (by omega) (by simp; omega)
      obtain ⟨A', c', rfl⟩ := own_form hown
      have hfin : Hid (Fr (fun j => (Value.slice A k cap).ownBlock = some j) w w') := Lib.hid ((hF.out.alloc _).grown hgrow fun j e => .inl e)
      replace hrun := Lib.hid hrun
      have g1 : decide ((0 : Int) < (k : Int) + 1) = true := by simp only [decide_eq_true_eq]; omega
      have g2 : (0 : Int) < (k : Int) + 1 := by omega
      clear ho hO hF hown hgrow hi hz0 hz1 hz2
      go_wp2_with (at_builtin; refine wpList_append_run rfl (.tmp 13) (.tmp 14) 36 rfl rfl rfl hrun.out ?_)
      go_ret
      exact ⟨by simp, hfin.out⟩

theorem is_i (w : World) (Z : Nat → Prop) (A : Option Addr) (cap : Nat) (v : Value) (L : List RowT) (k : Nat) (x : RowT) (h : RefIs Z w v L) (hx : L[k]? = some x) (hxl : x.1.length ≤ 35184372087808) (ha : RdI w A x.1) :
    Calls Try.prog 12 #[.slice A x.1.length cap, .int .i64 x.2, v, .int .i64 (k : Int)] w (BoolPost w true) := by
  obtain ⟨Av, cv, rfl⟩ := h.form
  obtain ⟨g, B, c, rfl, hc1, hc2, hrd, hxc, -⟩ := h.row hx
  have hsame := Lib.hid (same_runes w A B cap c x.1 x.1 (by omega) ha hrd.rd)
  rw [decide_eq_true rfl] at hsame
  have hkl := idx_lt hx
  have g0 : (0 : Int) ≤ (k : Int) := by omega
  have g1 : (k : Int) < (L.length : Int) := by omega
  have g2 : decide ((k : Int) < (L.length : Int)) = true := by simp; omega
  clear h hrd ha hx
  generalize x.1.length = xl at *
  go_enter Try.func12, Try.ntmps12
  go_wp2_with fail
  refine hsame.out.mono ?_
  rintro e _ ⟨rfl, m, rfl⟩
  go_wp2
  go_ret
  exact ⟨by simp, m, rfl⟩
end Go.Proofs.Ytioflglfnalcaaa

/- TriePlays: a trie and the document's rows beside it: what each call does to both. -/
namespace Go.Proofs.Ytioflglfnalcaaa
open Go.RowKit

/-- A trie in which the rows L lie; all its rows are of ks. -/
structure TrI (w : World) (t : Nat) (T : AT) (L : List RowT) (ks : List (List Int)) : Prop where
  rep : Rep Li w t T
  lies : Lies T.f L
  sorted : Sorted L
  within : T.Within ks
  lks : ∀ x ∈ L, x.1 ∈ ks
  ksl : ∀ q ∈ ks, q.length ≤ 35184372087808
  ksn : ks.length ≤ 2550000000000

section
variable {w w' : World} {t : Nat} {T : AT} {L : List RowT} {ks : List (List Int)}
theorem TrI.len (h : TrI w t T L ks) : L.length ≤ 2550000000000 := by
  have h0 : (L.map (·.1)).Nodup := by
    rw [List.Nodup, List.pairwise_map]
    refine h.sorted.imp ?_
    intro x y h e
    rw [e] at h
    exact lx_irrefl _ h
  have := nodup_le (l' := ks) h0 fun q hq => by
    obtain ⟨x, hx, rfl⟩ := List.mem_map.1 hq
    exact h.lks x hx
  have := h.ksn
  simp only [List.length_map] at *
  omega
theorem TrI.lens (h : TrI w t T L ks) : ∀ x ∈ L, x.1.length ≤ 35184372087808 := fun x hx => h.ksl _ (h.lks x hx)
theorem TrI.small (h : TrI w t T L ks) : T.Small 35184372087808 ks.length := within_small h.rep.ok h.within h.ksl
theorem TrI.deep (h : TrI w t T L ks) : ∀ q, (T.N q).isSome → q.length < 35184372087809 := fun q hq => by have := h.small.1 q hq; omega
theorem TrI.count (h : TrI w t T L ks) : T.ps.length = L.length := lies_count h.rep.ok h.lies h.sorted
theorem TrI.frame {S : Nat → Prop} (h : TrI w t T L ks) (k : Fr S w w') (hs : ∀ j, T.own j → ¬ S j) : TrI w' t T L ks := { h with rep := h.rep.frame k hs }
theorem TrI.fr (h : TrI w t T L ks) (k : Fr Nob w w') : TrI w' t T L ks := h.frame k fun _ _ h => h
theorem TrI.new (h : TrI w t T L ks) (k : Below w.heap.size w w') : TrI w' t T L ks := h.fr (Fr.of_below k Nob)
/-- A block of the trie is no block of rows or numbers. -/
theorem TrI.ty (h : TrI w t T L ks) {j : Nat} (hj : T.own j) {c : Array Value} {ty : TypeId} {f : Nat × Nat} (hc : w.heap[j]? = some (.cells c ty f)) : ty = 78 ∨ ty = 76 := by
  rcases hj with ⟨p, hp⟩ | ⟨p, hp⟩
  · rw [h.rep.node p j hp] at hc
    unfold nodeObj at hc
    split at hc
    · injection hc with hc; injection hc with _ hc; exact .inl hc.symm
    · injection hc with hc; injection hc with _ hc; exact .inr hc.symm
  · rw [h.rep.map p j hp] at hc
    injection hc with hc; cases hc
theorem TrI.int (h : TrI w t T L ks) : ∀ p v, T.f p = some v → ∃ x, v = .int .i64 x := fun p v hv => by
  obtain ⟨x, h1, _⟩ := (h.lies p v).1 hv
  exact ⟨x, h1⟩

def PutT (w : World) (t : Nat) (T : AT) (L : List RowT) (ks : List (List Int)) (b : Bool) (e : Ending) (w' : World) : Prop :=
  e = .returned (.bool b) ∧ ∃ T', TrI w' t T' L ks ∧ Fr T.own w w' ∧ ∀ j, T'.own j → T.own j ∨ w.heap.size ≤ j
theorem tri_put (h : TrI w t T L ks) (A : Option Addr) (cap : Nat) (key : List Int) (n : Int) (hk : key ∈ ks) (hr : RdI w A key) (ha : ∀ ad, A = some ad → key ≠ [] → ¬ T.own ad.block) :
    Calls Try.prog 14 #[ptr t, .slice A key.length cap, .int .i64 n] w (PutT w t T (putR L key n) ks (hasR L key)) := by
  have hkl := h.ksl key hk
  refine (put_i w t T A cap key n h.rep (by omega) hr ha (by rw [h.count]; have := h.len; omega)).mono ?_
  rintro e w' ⟨h1, T', h2, h3, h4, h5, h6, h7, h8⟩
  rw [lies_has h.lies] at h1
  refine ⟨h1, T', ⟨h2, ?_, putR_sorted h.sorted key n, Within_put h.within h8 hk, fun x hx => ?_, h.ksl, h.ksn⟩, h5, h6⟩
  · rw [h3]; exact lies_put h.lies h.sorted key n
  · rcases (putR_mem h.sorted key n x).1 hx with rfl | ⟨_, hx⟩
    · exact hk
    · exact h.lks x hx
theorem tri_take (h : TrI w t T L ks) (A : Option Addr) (cap : Nat) (key : List Int) (hkl : key.length ≤ 35184372087808) (hr : RdI w A key) :
    Calls Try.prog 34 #[ptr t, .slice A key.length cap] w (PutT w t T (takeR L key) ks (hasR L key)) := by
  refine (take_i w t T A cap key h.rep (by omega) hr (by rw [h.count]; have := h.len; omega)).mono ?_
  rintro e w' ⟨h1, h2, h3⟩
  rw [lies_has h.lies] at h1
  exact ⟨h1, _, ⟨h2, lies_take h.lies key, takeR_sorted h.sorted key, h.within, fun x hx => h.lks x ((takeR_mem L key x).1 hx).2, h.ksl, h.ksn⟩, h3, fun j hj => .inl hj⟩
theorem tri_get (h : TrI w t T L ks) (A : Option Addr) (cap : Nat) (key : List Int) (hkl : key.length ≤ 35184372087808) (hr : RdI w A key) :
    Calls Try.prog 16 #[ptr t, .slice A key.length cap] w fun e w' => e = .returned (.tuple #[.int .i64 (getR L key).1, .bool (getR L key).2]) ∧ w = w' :=
  (get_i w t T A cap key h.rep (by omega) hr).mono fun e w' ⟨h1, h2⟩ => ⟨by rw [h1, (lies_get h.lies key).1, (lies_get h.lies key).2], h2⟩
theorem tri_long (h : TrI w t T L ks) (A : Option Addr) (cap : Nat) (l : List Int) (hkl : l.length ≤ 35184372087808) (hr : RdI w A l) :
    Calls Try.prog 15 #[ptr t, .slice A l.length cap] w fun e w' => e = .returned (.tuple #[.int .i64 (lonVal (lonR L l)).1, .int .i64 ((lonVal (lonR L l)).2.1 : Int), .bool (lonVal (lonR L l)).2.2]) ∧ ∃ k, w' = w.drewN k :=
  (longest_i w t T A cap l h.rep (by omega) hr).mono fun e w' ⟨h1, h2⟩ => ⟨by rw [h1, lies_lon h.lies], h2⟩
theorem tri_len (h : TrI w t T L ks) : Calls Try.prog 35 #[ptr t] w fun e w' => e = .returned (.int .i64 (L.length : Int)) ∧ w = w' :=
  (len_i w t T h.rep).mono fun e w' ⟨h1, h2⟩ => ⟨by rw [h1, h.count], h2⟩
theorem tri_below (h : TrI w t T L ks) (A : Option Addr) (cap : Nat) (zs : List Int) (hr : RdI w A zs) (hn : A = none → cap = 0) (hlen : zs.length ≤ 35184372087808) :
    Calls Try.prog 13 #[ptr t, .slice A zs.length cap] w (BelowPost 43 64 3 48 w (outs (belowR L zs))) := by
  have hb := below_i (N := 35184372088832) (D := 35184372087809) sort_all (Nat.le_refl _) (by omega) w t T A cap zs h.rep hr hn (by omega) ⟨fun q hq => by have := h.small.1 q hq; omega, fun q => by have := h.small.2 q; have := h.ksn; omega⟩ h.int h.deep
    (Nat.le_trans (below_le_ps h.rep.ok h.deep zs) (by rw [h.count]; have := h.len; omega))
  rwa [lies_below h.rep.ok h.deep h.lies h.sorted] at hb
theorem tri_all (h : TrI w t T L ks) : Calls Try.prog 10 #[ptr t] w (BelowPost 43 64 3 48 w (outs L)) := by
  have hb := all_i (N := 35184372088832) (D := 35184372087809) sort_all (Nat.le_refl _) (by omega) w t T h.rep ⟨fun q hq => by have := h.small.1 q hq; omega, fun q => by have := h.small.2 q; have := h.ksn; omega⟩ h.int h.deep
    (Nat.le_trans (below_le_ps h.rep.ok h.deep []) (by rw [h.count]; have := h.len; omega))
  rwa [lies_below h.rep.ok h.deep h.lies h.sorted, belowR_nil] at hb
end

theorem tri_new (w : World) (ks : List (List Int)) (h1 : ∀ q ∈ ks, q.length ≤ 35184372087808) (h2 : ks.length ≤ 2550000000000) : Calls Try.prog 9 #[] w fun e w' => ∃ t T, e = .returned (ptr t) ∧ TrI w' t T [] ks ∧ (∀ j, T.own j → w.heap.size ≤ j ∧ j < w'.heap.size) ∧ Below w.heap.size w w' :=
  (st_new w).mono fun e w' ⟨t, g1, S⟩ => ⟨t, _, g1, ⟨S.rep, fun q u => by simp [AT.empty], by simp [Sorted], fun p r hr => by simp [AT.empty] at hr, by simp, h1, h2⟩, fun j hj => ⟨S.own j hj, S.rep.lt hj⟩, S.below⟩

/-- A pair: a trie and the document's rows, at a place of a block of pairs. -/
structure Pr (Z : Nat → Prop) (w : World) (pb off t : Nat) (T : AT) (v : Value) (L : List RowT) (ks : List (List Int)) : Prop where
  tri : TrI w t T L ks
  ref : RefIs Z w v L
  c0 : w.cell? ⟨pb, off, none⟩ = some (ptr t)
  c1 : w.cell? ⟨pb, off + 1, none⟩ = some v
  fz : w.frozen? ⟨pb, off + 1, none⟩ = false
  nown : ¬ T.own pb
  ty : ∃ c f, w.heap[pb]? = some (.cells c 30 f)
section
variable {Z : Nat → Prop} {w w' : World} {pb off t : Nat} {T : AT} {v : Value} {L : List RowT} {ks : List (List Int)}
theorem Pr.lt (h : Pr Z w pb off t T v L ks) : pb < w.heap.size := by obtain ⟨c, f, h⟩ := h.ty; exact lt_of_heap h
theorem Pr.frame {S : Nat → Prop} (h : Pr Z w pb off t T v L ks) (k : Fr S w w') (h1 : ∀ j, T.own j → ¬ S j) (h2 : ¬ S pb) (h3 : ∀ j c t f, S j → w.heap[j]? = some (.cells c t f) → t = 83 ∨ t = 21 → ¬ Z j) : Pr Z w' pb off t T v L ks where
  tri := h.tri.frame k h1
  ref := h.ref.frame k h3
  c0 := k.cell h.c0 h2
  c1 := k.cell h.c1 h2
  fz := by
    have := k.block pb h.lt h2
    have h4 := h.fz
    simp only [World.frozen?] at h4 ⊢
    rw [this]; exact h4
  nown := h.nown
  ty := by obtain ⟨c, f, h4⟩ := h.ty; exact ⟨c, f, k.heap h4 h2⟩
theorem Pr.fr (h : Pr Z w pb off t T v L ks) (k : Fr Nob w w') : Pr Z w' pb off t T v L ks := h.frame k (fun _ _ h => h) (fun h => h) fun _ _ _ _ h => h.elim
theorem Pr.new (h : Pr Z w pb off t T v L ks) (k : Below w.heap.size w w') : Pr Z w' pb off t T v L ks := h.fr (Fr.of_below k Nob)
theorem Pr.mono {Z' : Nat → Prop} (h : Pr Z w pb off t T v L ks) (hz : ∀ j, j < w.heap.size → Z j → Z' j) : Pr Z' w pb off t T v L ks := { h with ref := h.ref.mono hz }
end
end Go.Proofs.Ytioflglfnalcaaa

/- TriePlays: how a pair moves on; parts of a function's code. -/
namespace Go.Proofs.Ytioflglfnalcaaa
open Go.RowKit

/-- The document's side may lag behind: the trie has L, the pair's list is M. -/
structure Pq (Z : Nat → Prop) (w : World) (pb off t : Nat) (T : AT) (v : Value) (L M : List RowT) (ks : List (List Int)) : Prop where
  tri : TrI w t T L ks
  ref : RefIs Z w v M
  c0 : w.cell? ⟨pb, off, none⟩ = some (ptr t)
  c1 : w.cell? ⟨pb, off + 1, none⟩ = some v
  nown : ¬ T.own pb
  ty : ∃ c, w.heap[pb]? = some (.cells c 30 (0, 0))
  mks : ∀ x ∈ M, x.1 ∈ ks
  mlen : M.length ≤ 2550000000000

def AnyZ : Nat → Prop := fun _ => True

def PbTo (pb off : Nat) (w w' : World) : Prop := ∃ c c', w.heap[pb]? = some (.cells c 30 (0, 0)) ∧ w'.heap[pb]? = some (.cells c' 30 (0, 0)) ∧ ∀ i, i ≠ off + 1 → c'[i]? = c[i]?
/-- From w to w' a pair has moved: its trie's blocks, its second cell, new memory; nothing else. -/
structure Mv (T0 T : AT) (pb off : Nat) (w w' : World) : Prop where
  fr : Fr (fun j => T0.own j ∨ j = pb) w w'
  pb : PbTo pb off w w'
  grow : ∀ j, T.own j → T0.own j ∨ w.heap.size ≤ j

section
variable {Z : Nat → Prop} {T0 T T' : AT} {pb off t : Nat} {w w' w'' : World} {v v' : Value} {L L' M M' : List RowT} {ks : List (List Int)}
theorem Pq.lt (h : Pq Z w pb off t T v L M ks) : pb < w.heap.size := by obtain ⟨c, h⟩ := h.ty; exact lt_of_heap h
theorem Pq.fz (h : Pq Z w pb off t T v L M ks) (o : Nat) : w.frozen? ⟨pb, o, none⟩ = false := by
  obtain ⟨c, h⟩ := h.ty
  exact frozen_of_row w pb o c 30 h
theorem Pq.mono {Z' : Nat → Prop} (h : Pq Z w pb off t T v L M ks) (hz : ∀ j, j < w.heap.size → Z j → Z' j) : Pq Z' w pb off t T v L M ks := { h with ref := h.ref.mono hz }
theorem Pq.tight (h : Pq Z w pb off t T v L M ks) : Pq (fun j => j < w.heap.size) w pb off t T v L M ks := { h with ref := h.ref.tight }
theorem Pq.any (h : Pq Z w pb off t T v L M ks) : Pq AnyZ w pb off t T v L M ks := h.mono fun _ _ _ => trivial
theorem Pq.frame {S : Nat → Prop} (h : Pq Z w pb off t T v L M ks) (k : Fr S w w') (h1 : ∀ j, T.own j → ¬ S j) (h2 : ¬ S pb) (h3 : ∀ j c t f, S j → w.heap[j]? = some (.cells c t f) → t = 83 ∨ t = 21 → ¬ Z j) : Pq Z w' pb off t T v L M ks where
  tri := h.tri.frame k h1
  ref := h.ref.frame k h3
  c0 := k.cell h.c0 h2
  c1 := k.cell h.c1 h2
  nown := h.nown
  ty := by obtain ⟨c, h4⟩ := h.ty; exact ⟨c, k.heap h4 h2⟩
  mks := h.mks
  mlen := h.mlen
theorem Pq.fr (h : Pq Z w pb off t T v L M ks) (k : Fr Nob w w') : Pq Z w' pb off t T v L M ks := h.frame k (fun _ _ h => h) (fun h => h) fun _ _ _ _ h => h.elim
theorem Pq.new (h : Pq Z w pb off t T v L M ks) (k : Below w.heap.size w w') : Pq Z w' pb off t T v L M ks := h.fr (Fr.of_below k Nob)
/-- The trie has gone on. -/
theorem Pq.setTri (h : Pq Z w pb off t T v L M ks) (hT : TrI w' t T' L' ks) (k : Fr T.own w w') (g : ∀ j, T'.own j → T.own j ∨ w.heap.size ≤ j) : Pq Z w' pb off t T' v L' M ks where
  tri := hT
  ref := h.ref.frame k fun j c ty f hS hj e => by
    rcases h.tri.ty hS hj with rfl | rfl <;> rcases e with e | e <;> cases e
  c0 := k.cell h.c0 h.nown
  c1 := k.cell h.c1 h.nown
  nown := fun ho => by
    rcases g pb ho with h1 | h1
    · exact h.nown h1
    · have := h.lt; omega
  ty := by obtain ⟨c, h4⟩ := h.ty; exact ⟨c, k.heap h4 h.nown⟩
  mks := h.mks
  mlen := h.mlen
theorem pb_fr (w : World) (pb off : Nat) (v : Value) : Fr (fun j => j = pb) w (w.setCell ⟨pb, off + 1, none⟩ v) := (Fr.refl (fun j => j = pb) w).setCell (p := ⟨pb, off + 1, none⟩) (.inl rfl) _
/-- The document's list is stored. -/
theorem Pq.setRef (h : Pq Z w pb off t T v L M ks) {Z' : Nat → Prop} (hr : RefIs Z' w v' M') (hm : ∀ x ∈ M', x.1 ∈ ks) (hl : M'.length ≤ 2550000000000) : Pq Z' (w.setCell ⟨pb, off + 1, none⟩ v') pb off t T v' L M' ks := by
  obtain ⟨c, hc⟩ := h.ty
  have hs := heap_set_same (o := off + 1) v' hc
  have h0 := h.c0
  have h1 := h.c1
  simp only [World.cell?, hc] at h0 h1
  have hlt : off + 1 < c.size := by
    rcases Nat.lt_or_ge (off + 1) c.size with h2 | h2
    · exact h2
    · rw [Array.getElem?_eq_none h2] at h1; cases h1
  refine ⟨h.tri.frame (pb_fr w pb off v') fun j hj e => h.nown (e ▸ hj), hr.frame (pb_fr w pb off v') fun j c' ty f hS hj e => ?_, ?_, ?_, h.nown, ⟨_, hs⟩, hm, hl⟩
  · subst hS
    rw [hc] at hj
    injection hj with hj
    injection hj with _ hj
    rw [← hj] at e
    rcases e with e | e <;> cases e
  · simp only [World.cell?, hs]
    rw [Array.getElem?_setIfInBounds_ne (by omega)]; exact h0
  · simp only [World.cell?, hs]
    rw [Array.getElem?_setIfInBounds_self_of_lt hlt]; rfl

theorem PbTo.refl (h : Pq Z w pb off t T v L M ks) : PbTo pb off w w := by obtain ⟨c, h⟩ := h.ty; exact ⟨c, c, h, h, fun _ _ => rfl⟩
theorem PbTo.step (h : PbTo pb off w w') (k : w'.heap[pb]? = w''.heap[pb]?) : PbTo pb off w w'' := by
  obtain ⟨c, c', h1, h2, h3⟩ := h
  exact ⟨c, c', h1, k ▸ h2, h3⟩
theorem PbTo.set (h : PbTo pb off w w') (v : Value) : PbTo pb off w (w'.setCell ⟨pb, off + 1, none⟩ v) := by
  obtain ⟨c, c', h1, h2, h3⟩ := h
  exact ⟨c, _, h1, heap_set_same (o := off + 1) v h2, fun i hi => (by rw [Array.getElem?_setIfInBounds_ne (fun e => hi e.symm)]; exact h3 i hi)⟩
theorem Mv.refl (h : Pq Z w pb off t T v L M ks) : Mv T T pb off w w := ⟨Fr.refl _ _, PbTo.refl h, fun _ h => .inl h⟩
theorem Mv.free (h : Mv T0 T pb off w w') (hp : pb < w.heap.size) {S : Nat → Prop} (k : Fr S w' w'') (hS : ∀ j, S j → w.heap.size ≤ j) : Mv T0 T pb off w w'' :=
  ⟨h.fr.trans k fun j hj e => by have := hS j e; omega, h.pb.step (k.block pb (Nat.lt_of_lt_of_le hp h.fr.size) fun e => by have := hS pb e; omega).symm, h.grow⟩
theorem Mv.new (h : Mv T0 T pb off w w') (hp : pb < w.heap.size) (k : Below w'.heap.size w' w'') : Mv T0 T pb off w w'' := h.free hp (Fr.of_below k Nob) fun _ h => h.elim
theorem Mv.tri (h : Mv T0 T pb off w w') (hp : pb < w.heap.size) (hn : ¬ T.own pb) (k : Fr T.own w' w'') (g : ∀ j, T'.own j → T.own j ∨ w'.heap.size ≤ j) : Mv T0 T' pb off w w'' :=
  ⟨h.fr.trans k fun j hj e => (by rcases h.grow j e with h1 | h1
                                  · exact .inl h1
                                  · omega), h.pb.step (k.block pb (Nat.lt_of_lt_of_le hp h.fr.size) hn).symm, fun j hj => by
    rcases g j hj with h1 | h1
    · exact h.grow j h1
    · have := h.fr.size; exact .inr (by omega)⟩
theorem Mv.set (h : Mv T0 T pb off w w') (v : Value) : Mv T0 T pb off w (w'.setCell ⟨pb, off + 1, none⟩ v) :=
  ⟨h.fr.trans (pb_fr w' pb off v) fun _ _ e => .inr e, h.pb.set v, h.grow⟩
theorem Mv.trans {T1 : AT} (h : Mv T0 T1 pb off w w') (k : Mv T1 T pb off w' w'') : Mv T0 T pb off w w'' := by
  refine ⟨h.fr.trans k.fr fun j hj e => ?_, ?_, fun j hj => ?_⟩
  · rcases e with e | e
    · rcases h.grow j e with h1 | h1
      · exact .inl h1
      · omega
    · exact .inr e
  · obtain ⟨c, c', h1, h2, h3⟩ := h.pb
    obtain ⟨d, d', k1, k2, k3⟩ := k.pb
    rw [h2] at k1
    injection k1 with k1
    injection k1 with k1 _
    subst k1
    exact ⟨c, d', h1, k2, fun i hi => (k3 i hi).trans (h3 i hi)⟩
  · rcases k.grow j hj with h1 | h1
    · exact h.grow j h1
    · have := h.fr.size; exact .inr (by omega)
end

def sqF : Code → Code
  | .seq a _ => a
  | c => c
def sqS : Code → Code
  | .seq _ b => b
  | c => c
def cdT : Code → Code
  | .cond _ a _ => a
  | c => c
def bkB : Code → Code
  | .block _ a => a
  | c => c
def lpB : Code → Code
  | .loop a => a
  | c => c
def rfB : Code → Code
  | .rangeFunc _ _ _ b => b
  | c => c
noncomputable def bodyOf (f : Func) : Code := match f.body with
  | some c => c
  | none => .skip
/-- walked: the loop over the turns. -/
noncomputable def w41 : Code := sqS (sqF (sqS (sqS (sqS (sqS (sqS (bodyOf Try.f41)))))))
/-- walked: one turn's body. -/
noncomputable def b41 : Code := bkB (sqF (sqS (lpB (bkB w41))))
/-- walked: one round's body. -/
noncomputable def r41 : Code := bkB (rfB (bkB (sqS (sqF (sqS b41)))))
/-- walked: what turn 2 does in a round. -/
noncomputable def c41 : Code := cdT (sqS (sqF (sqS (sqS r41))))
end Go.Proofs.Ytioflglfnalcaaa

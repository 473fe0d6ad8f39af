/- TrieLongest: the law in plain Lean, and the walk. -/
import Derived.BigQuiet
import Derived.Deep.QuietTactic
import Derived.Test.YtioflglfnalcaaaWk
namespace Go.Proofs.Ytioflglfnalcaaa
open Go.RowKit

/-- What lies where after the first n rows were put, each with its number. -/
def putsF (rows : List (List Int)) : Nat → List Int → Option Value
  | 0 => fun _ => none
  | n + 1 => fun q => if q = rows.getD n [] then some (.int .i64 (n : Int)) else putsF rows n q

theorem putsF_some {rows : List (List Int)} {q : List Int} {v : Value} : ∀ {n : Nat}, putsF rows n q = some v → ∃ i, i < n ∧ v = .int .i64 (i : Int) ∧ rows.getD i [] = q
  | 0, h => by cases h
  | n + 1, h => by
    simp only [putsF] at h
    split at h
    · rename_i e
      injection h with h
      exact ⟨n, by omega, h.symm, e.symm⟩
    · obtain ⟨i, h1, h2⟩ := putsF_some h
      exact ⟨i, by omega, h2⟩

theorem lon_le {z : Value} {f : List Int → Option Value} {zs : List Int} : ∀ k, (lon z f zs k).2.1 ≤ k
  | 0 => Nat.le_refl _
  | k + 1 => by
    rw [lon]
    split
    · exact Nat.le_refl _
    · have := @lon_le z f zs k; omega
theorem lon_no {z : Value} {f : List Int → Option Value} {zs : List Int} : ∀ k, (lon z f zs k).2.2 = false → (lon z f zs k).1 = z ∧ (lon z f zs k).2.1 = 0
  | 0, h => by
    simp only [lon] at h ⊢
    cases hf : f [] with
    | none => simp
    | some v => rw [hf] at h; cases h
  | k + 1, h => by
    rw [lon] at h ⊢
    split at h
    · cases h
    · rename_i hn
      rw [if_neg hn]
      exact lon_no k h
theorem lon_int {f : List Int → Option Value} {zs : List Int} (hf : ∀ q v, f q = some v → ∃ x : Int, v = .int .i64 x) : ∀ k, ∃ x : Int, (lon (.int .i64 0) f zs k).1 = .int .i64 x
  | 0 => by
    simp only [lon]
    cases h : f [] with
    | none => exact ⟨0, rfl⟩
    | some v => obtain ⟨x, rfl⟩ := hf _ _ h; exact ⟨x, rfl⟩
  | k + 1 => by
    rw [lon]
    split
    · rename_i hs
      obtain ⟨v, h⟩ := Option.isSome_iff_exists.1 hs
      obtain ⟨x, rfl⟩ := hf _ _ h
      exact ⟨x, by rw [h]; rfl⟩
    · exact lon_int hf k

theorem lon_none {z : Value} {f : List Int → Option Value} {zs : List Int} : ∀ k, (∀ q, q ≤ k → f (zs.take q) = none) → lon z f zs k = (z, 0, false)
  | 0, h => by
    have := h 0 (Nat.le_refl _)
    simp only [List.take_zero] at this
    simp [lon, this]
  | k + 1, h => by
    rw [lon, h (k + 1) (Nat.le_refl _), if_neg (by simp)]
    exact lon_none k fun q hq => h q (by omega)
theorem lon_at {z v : Value} {f : List Int → Option Value} {zs : List Int} {k n : Nat} (hk : k ≤ n) (hf : f (zs.take k) = some v) (h : ∀ q, k + 1 ≤ q → q ≤ n → f (zs.take q) = none) : lon z f zs n = (v, k, true) := by
  rw [lon_stop hk (fun j h1 h2 => h j h1 h2)]
  cases k with
  | zero =>
    simp only [List.take_zero] at hf
    simp [lon, hf]
  | succ k => rw [lon, hf]; simp

/-- Rows that came in. -/
def RdRows (w : World) (Av : Option Addr) (rows : List (List Int)) : Prop :=
  ∀ i, i < rows.length → ∃ b off A c, Av = some ⟨b, off, none⟩ ∧ w.cell? ⟨b, off + i, none⟩ = some (.slice A (rows.getD i []).length c) ∧ RdI w A (rows.getD i []) ∧ (rows.getD i []).length ≤ 140737488351232

theorem rdI_below {w w' : World} {A : Option Addr} {zs : List Int} (h : RdI w A zs) (hb : Below w.heap.size w w') : RdI w' A zs := fun k hk => by
  obtain ⟨b, off, e, hc⟩ := h k hk
  exact ⟨b, off, e, (hb.cell (p := ⟨b, off + k, none⟩) (cell_lt hc)).trans hc⟩
theorem rdI_lt {w : World} {A : Option Addr} {zs : List Int} (h : RdI w A zs) : ∀ ad, A = some ad → zs ≠ [] → ad.block < w.heap.size := fun ad e hz => by
  obtain ⟨b, off, e', hc⟩ := h 0 (List.length_pos_iff.2 hz)
  rw [e] at e'; cases e'
  exact cell_lt hc
theorem rdI_take {w : World} {A : Option Addr} {zs : List Int} (h : RdI w A zs) (k : Nat) : RdI w A (zs.take k) := fun j hj => by
  have hj' : j < k ∧ j < zs.length := by simpa [List.length_take, Nat.lt_min] using hj
  obtain ⟨b, off, e, hc⟩ := h j hj'.2
  refine ⟨b, off, e, hc.trans ?_⟩
  simp [List.getD, hj'.1]

theorem rdRows_below {w w' : World} {Av : Option Addr} {rows : List (List Int)} (h : RdRows w Av rows) (hb : Below w.heap.size w w') : RdRows w' Av rows := fun i hi => by
  obtain ⟨b, off, A, c, h1, h2, h3, h4⟩ := h i hi
  exact ⟨b, off, A, c, h1, (hb.cell (p := ⟨b, off + i, none⟩) (cell_lt h2)).trans h2, rdI_below h3 hb, h4⟩

set_option maxHeartbeats 1000000 in
set_option maxRecDepth 100000 in
theorem longest_law (w : World) (Av Al : Option Addr) (cap capl : Nat) (rows : List (List Int)) (l : List Int) (hr : RdRows w Av rows) (hl : RdI w Al l) (hll : l.length ≤ 140737488351232) (hlc : l.length ≤ capl) (hn : rows.length ≤ 140737488351232) :
    Calls Try.prog 4 #[.slice Av rows.length cap, .slice Al l.length capl] w (WorksP w) := by
  have Hr := Lib.hid hr
  have Hl := Lib.hid hl
  clear hr hl
  go_enter Try.func4, Try.ntmps4
  go_wp2_with fail
  refine (st_new w).mono ?_
  rintro e w1 ⟨t, rfl, S0⟩
  replace S0 := Lib.hid S0
  go_wp2_with fail
  refine (works_i w1).mono ?_
  rintro e w2 ⟨rfl, hb2⟩
  have S1 := Lib.hid (S0.out.new hb2)
  clear S0 hb2
  go_wp2
  go_loopw [6] (fun i wr => ∃ k : Nat, k ≤ rows.length ∧ i = .int .i64 k ∧ Hid (∃ ps D m T, ps.length ≤ k ∧ D ≤ 140737488351232 ∧ St Li w t (putsF rows k) ps D m T wr)) (fun i _ => rows.length - (intOf i).toNat)
  case atStart => exact ⟨0, Nat.zero_le _, rfl, Lib.hid ⟨_, _, _, _, Nat.le_refl _, by omega, S1.out⟩⟩
  case round =>
    obtain ⟨k, hk, rfl, hrel⟩ := hrel
    obtain ⟨ps, D, m, T, hps, hD, S⟩ := hrel.out
    clear hrel
    by_cases hlt : k < rows.length
    · obtain ⟨b, off, A, c, rfl, hc, hrd, hle⟩ := Hr.out k hlt
      have hc' := (S.below.cell (p := ⟨b, off + k, none⟩) (cell_lt hc)).trans hc
      have hrd' := Lib.hid (rdI_below hrd S.below)
      have hput := st_put S A c (rows.getD k []) (k : Int) hle hrd'.out (fun ad e hz ho => by
        have h1 := rdI_lt hrd ad e hz
        have h2 := S.own _ ho
        omega) (by omega) rfl rfl hD hle
      replace hput := Lib.hid hput
      have hnext : Hid (∀ (ps' : List (List Int)) (T' : AT) (w' : World), ps'.length ≤ k + 1 → St Li w t (fun q => if q = rows.getD k [] then some (Value.int IntKind.i64 ↑k) else putsF rows k q) ps' 140737488351232 (m + 1) T' w' →
          ∃ ps D m T, ps.length ≤ k + 1 ∧ D ≤ 140737488351232 ∧ St Li w t (putsF rows (k + 1)) ps D m T w') := Lib.hid fun ps' T' w' h1 h2 => ⟨ps', _, _, T', h1, Nat.le_refl _, h2⟩
      have hpl : Hid ((if (putsF rows k (rows.getD k [])).isSome = true then ps else rows.getD k [] :: ps).length ≤ k + 1) := by
        refine Lib.hid ?_
        split
        · omega
        · simp only [List.length_cons]; omega
      clear S hc hrd hle
      generalize rows.getD k [] = zs at *
      generalize (putsF rows k zs).isSome = bb at *
      go_wp2_with fail
      refine hput.out.mono ?_
      rintro e w3 ⟨rfl, T', S2⟩
      have hk1 := Lib.hid (hnext.out _ _ _ hpl.out S2)
      clear hnext hpl S2 hput hrd' hc'
      go_wp2
      exact ⟨⟨k + 1, by omega, by simp, hk1⟩, by simp [intOf]; omega⟩
    · have hkk : k = rows.length := by omega
      subst hkk
      have hl2 := Lib.hid (rdI_below Hl.out S.below)
      replace S := Lib.hid S
      obtain ⟨f, hf⟩ : ∃ f, f = putsF rows rows.length := ⟨_, rfl⟩
      rw [← hf] at S
      obtain ⟨x, hx⟩ := lon_int (f := f) (zs := l) (fun q v h => by
        rw [hf] at h
        obtain ⟨i, _, h2, _⟩ := putsF_some h
        exact ⟨_, h2⟩) l.length
      have hle2 := lon_le (z := .int .i64 0) (f := f) (zs := l) l.length
      have hno := lon_no (z := .int .i64 0) (f := f) (zs := l) l.length
      rcases hlon : lon (.int .i64 0) f l l.length with ⟨v, n, ok⟩
      rw [hlon] at hx hle2 hno
      simp only at hx hle2 hno
      subst hx
      have hlong := Lib.hid (st_long S.out Al capl l hll hl2.out hlon)
      replace hf := Lib.hid hf
      replace hlon := Lib.hid hlon
      replace hno := Lib.hid hno
      go_wp2_with fail
      refine hlong.out.mono ?_
      rintro e _ ⟨rfl, n1, rfl⟩
      replace S := Lib.hid (S.out.drewN n1)
      replace hl2 : Hid (RdI (wr.drewN n1) Al l) := Lib.hid hl2.out
      clear hlong
      generalize wr.drewN n1 = w4 at *
      have hnn : Hid (ok = false → x = 0 ∧ n = 0) := Lib.hid fun e => by
        obtain ⟨h1, h2⟩ := hno.out e
        injection h1 with _ h1
        exact ⟨h1, h2⟩
      clear hno
      have hx1 : (0 : Int) ≤ (n : Int) := by omega
      have hx2 : (n : Int) ≤ (l.length : Int) := by omega
      have hd1 : decide ((n : Int) < 0) = false := by simp
      have hd2 : decide ((l.length : Int) < (n : Int)) = false := by simp; omega
      have hd3 : decide (l.length < n) = false := by simp; omega
      have hbelow := Lib.hid S.out.below
      have hrows : Hid (RdRows w4 Av rows) := Lib.hid (rdRows_below Hr.out (S.out.below))
      have hx0 : ok = false → x = 0 ∧ n = 0 := hnn.out
      clear hnn
      cases ok
      case' false => obtain ⟨rfl, rfl⟩ := hx0 rfl
      all_goals
        clear hx0
        go_wp2
        go_loopw [10] (fun i wr => ∃ j : Nat, j ≤ l.length + 1 ∧ i = .int .i64 ((j : Int) - 1) ∧ wr = w4 ∧ Hid (∀ q, j ≤ q → q ≤ l.length → f (l.take q) = none)) (fun i _ => (intOf i + 1).toNat)
        case atStart => exact ⟨l.length + 1, Nat.le_refl _, by simp, rfl, Lib.hid fun q h1 h2 => by omega⟩
        case round =>
          obtain ⟨j, hj, rfl, rfl, hnone⟩ := hrel
          cases j with
          | zero =>
            have hz := lon_none (z := .int .i64 0) (f := f) (zs := l) l.length (fun q hq => hnone.out q (Nat.zero_le _) hq)
            rw [hlon.out] at hz
            injection hz with hz0 hz
            injection hz with hz1 hz2
            clear hz0 hz1
            first
              | (cases hz2; done)
              | (have HP : Hid (WorksP w (.returned (.bool true)) wr) := ⟨rfl, hbelow.out⟩
                 go_wp2
                 go_ret
                 exact HP.out)
          | succ k =>
            have hgl : (l.take k).length = k := by rw [List.length_take]; omega
            have hrk := rdI_take hl2.out k
            cases hfk : f (l.take k) with
            | none =>
              have hget := st_get S.out Al capl (l.take k) (by omega) hrk (b := false) (v := .int .i64 0) (by rw [hfk]; rfl) (by rw [hfk]; rfl)
              rw [hgl] at hget
              replace hget := Lib.hid hget
              have hnx : Hid (∀ q, k ≤ q → q ≤ l.length → f (l.take q) = none) := Lib.hid fun q h1 h2 => by
                rcases (by omega : q = k ∨ k + 1 ≤ q) with rfl | h3
                · exact hfk
                · exact hnone.out q h3 h2
              clear hgl hrk hfk hnone
              rw [show ((k + 1 : Nat) : Int) - 1 = (k : Int) by omega]
              have hk1 : (0 : Int) ≤ (k : Int) := by omega
              have hk2 : (k : Int) ≤ (capl : Int) := by omega
              go_wp2_with fail
              refine hget.out.mono ?_
              rintro e _ ⟨rfl, rfl⟩
              go_wp2
              exact ⟨⟨k, by omega, rfl, trivial, hnx⟩, by simp only [intOf]; omega⟩
            | some v =>
              have hat := lon_at (z := .int .i64 0) (n := l.length) (by omega) hfk hnone.out
              rw [hlon.out] at hat
              injection hat with ha0 hat
              injection hat with ha1 ha2
              cases ha2
              all_goals
                have hgl : (l.take k).length = k := by rw [List.length_take]; omega
                have hfk' := hfk
                rw [hf.out] at hfk'
                obtain ⟨i, hi, rfl, hri⟩ := putsF_some hfk'
                injection ha0 with _ ha0
                subst ha0
                subst ha1
                obtain ⟨b, off, A, c, rfl, hc, hrd, hle⟩ := hrows.out i hi
                rw [hri] at hc hrd hle
                have hget := st_get S.out Al capl (l.take n) (by omega) hrk (b := true) (v := .int .i64 (i : Int)) (by rw [hfk]; rfl) (by rw [hfk]; rfl)
                have hsame : ∀ k, Calls Try.prog 17 #[.slice A (l.take n).length c, .slice Al (l.take n).length capl] (wr.drewN k) fun e w' => e = .returned (.bool true) ∧ ∃ m, w' = (wr.drewN k).drewN m := fun k =>
                  (same_runes (wr.drewN k) A Al c capl (l.take n) (l.take n) hle hrd hrk).mono fun e w' ⟨h1, h2⟩ => ⟨by rw [h1, decide_eq_true rfl], h2⟩
                rw [hgl] at hget hc hsame
                replace hget := Lib.hid hget
                replace hsame := Lib.hid hsame
                have hi1 : (0 : Int) ≤ (i : Int) := by omega
                have hi2 : (i : Int) < (rows.length : Int) := by omega
                have hk1 : (0 : Int) ≤ (n : Int) := by omega
                have hk2 : (n : Int) ≤ (capl : Int) := by omega
                clear hfk hfk' hri hrd hrk hle hgl hnone
                rw [show ((n + 1 : Nat) : Int) - 1 = (n : Int) by omega]
                go_wp2_with fail
                refine hget.out.mono ?_
                rintro e _ ⟨rfl, rfl⟩
                go_wp2
                go_quiet ((go_at_call 17; exact Calls.quiet_of (hsame.out _)))
                have HP : Hid (WorksP w (.returned (.bool true)) (wr.drewN nq)) := ⟨rfl, (S.out.drewN nq).below⟩
                go_wp2
                go_ret
                exact HP.out
end Go.Proofs.Ytioflglfnalcaaa

/- slices.Sort at int32: pdqsortOrdered sorts; Sort does, however many elements there are. -/
import Derived.Test.YtioflglfnalcaaaSh
import Derived.Test.YtioflglfnalcaaaSk
namespace Go.Proofs.Ytioflglfnalcaaa
open Go.RowKit

/-- What a call of pdqsortOrdered comes to. -/
def PdqP (w : World) (g a b : Nat) (d : Array Int) (e : Ending) (w' : World) : Prop :=
  e = .returned (.tuple #[]) ∧ ∃ d', Sort.PermIn a b d d' ∧ Sort.SortedIn Sort.ltInt a b d' ∧ RowI w' g d' ∧ Fr (· = g) w w'

/-- The loop's state: sorting what is left sorts all. -/
structure PS (w : World) (g len a b : Nat) (d : Array Int) (a2 b2 : Nat) (dk : Array Int) (wr : World) : Prop where
  row : RowI wr g dk
  size : dk.size = len
  fr : Fr (· = g) w wr
  below : Sort.Below Sort.ltInt a2 b2 dk
  fin : ∀ R, Sort.PermIn a2 b2 dk R → Sort.SortedIn Sort.ltInt a2 b2 R → Sort.PermIn a b d R ∧ Sort.SortedIn Sort.ltInt a b R

/-- The row's part is permuted. -/
theorem PS.perm {w : World} {g len a b : Nat} {d : Array Int} {a2 b2 : Nat} {dk d1 : Array Int} {wr w1 : World} (h : PS w g len a b d a2 b2 dk wr) (hb : b2 ≤ len) (hp : Sort.PermIn a2 b2 dk d1) (hr : RowI w1 g d1) (hf : Fr (· = g) wr w1) : PS w g len a b d a2 b2 d1 w1 where
  row := hr
  size := hp.1.trans h.size
  fr := h.fr.trans hf fun _ _ h => h
  below := h.below.perm (by rw [h.size]; exact hb) hp
  fin := fun R h1 h2 => h.fin R (Sort.permIn_trans _ _ _ _ _ hp h1) h2

theorem PS.done {w : World} {g len a b : Nat} {d : Array Int} {a2 b2 : Nat} {dk d1 : Array Int} {wr w1 : World} (h : PS w g len a b d a2 b2 dk wr) (hp : Sort.PermIn a2 b2 dk d1) (hs : Sort.SortedIn Sort.ltInt a2 b2 d1) (hr : RowI w1 g d1) (hf : Fr (· = g) wr w1) : PdqP w g a b d (.returned (.tuple #[])) w1 :=
  ⟨rfl, d1, (h.fin d1 hp hs).1, (h.fin d1 hp hs).2, hr, h.fr.trans hf fun _ _ h => h⟩

set_option maxHeartbeats 4000000 in
set_option maxRecDepth 100000 in
theorem pdq_i (g cap len : Nat) (hsz : len ≤ 35184372088832) : ∀ (n : Nat) (w : World) (d : Array Int) (a b lim : Nat), b - a < n → RowI w g d → d.size = len → a ≤ b → b ≤ len → lim ≤ 64 → Sort.Below Sort.ltInt a b d →
    Calls Try.prog 67 #[.slice (some ⟨g, 0, none⟩) len cap, .int .i64 a, .int .i64 b, .int .i64 lim] w (PdqP w g a b d) := by
  intro n
  induction n with
  | zero => intro w d a b lim h; omega
  | succ n ih =>
  intro w d a b lim hn hd hlen hab hb hlim hB
  have IH := Lib.hid ih
  have P0 : Hid (PS w g len a b d a b d w) := ⟨hd, hlen, Fr.refl _ _, hB, fun R h1 h2 => ⟨h1, h2⟩⟩
  clear hd hlen hB ih
  go_enter Try.func67, Try.ntmps67
  go_wp2
  go_loopw [1, 2, 3, 8, 9] (fun va vb vl vw vp wr => ∃ a2 b2 lim2 : Nat, ∃ wb wp : Bool, ∃ dk : Array Int, a ≤ a2 ∧ a2 ≤ b2 ∧ b2 ≤ b ∧ lim2 ≤ 64 ∧ va = .int .i64 a2 ∧ vb = .int .i64 b2 ∧ vl = .int .i64 lim2 ∧ vw = .bool wb ∧ vp = .bool wp ∧ Hid (PS w g len a b d a2 b2 dk wr)) (fun va vb vl vw vp _ => (intOf vb - intOf va).toNat)
  case atStart => exact ⟨a, b, lim, true, true, d, by omega, hab, by omega, hlim, rfl, rfl, rfl, rfl, rfl, P0⟩
  case round =>
    clear P0
    obtain ⟨a2, b2, lim2, wb, wp, dk, ha2, hab2, hb2, hl2, rfl, rfl, rfl, rfl, rfl, X⟩ := hrel
    have hbl : b2 ≤ len := by omega
    obtain ⟨l, hl⟩ : ∃ l, l = b2 - a2 := ⟨_, rfl⟩
    have hll : a2 + l ≤ b2 ∧ b2 ≤ a2 + l := by omega
    have e0 : (b2 : Int) - (a2 : Int) = (l : Int) := by omega
    have w0 : IntKind.i64.wrap ((b2 : Int) - (a2 : Int)) = (l : Int) := by rw [IntWalk.i64_in _ ⟨by omega, by omega⟩]; omega
    have v0 : IntKind.i64.wrap (l : Int) = (l : Int) := IntWalk.i64_in _ ⟨by omega, by omega⟩
    clear hl
    by_cases h12 : l ≤ 12
    · have hd0 : decide ((l : Int) ≤ 12) = true := by simp; omega
      have hd1 : (l : Int) ≤ 12 := by omega
      have H := Lib.hid (ins_i wr g cap len dk a2 b2 X.out.row X.out.size hsz hab2 hbl)
      have hfin : Hid (∀ w1, RowI w1 g (Sort.insertionSort Sort.ltInt dk a2 b2) → Fr (· = g) wr w1 → PdqP w g a b d (.returned (.tuple #[])) w1) := by
        intro w1 h1 h2
        obtain ⟨h3, h4⟩ := Sort.insertionSort_holds (lt := Sort.ltInt) Sort.swo_ltInt dk a2 b2 hab2 (by rw [X.out.size]; exact hbl)
        exact X.out.done h3 h4 h1 h2
      go_wp2_with fail
      refine H.out.mono ?_
      rintro e w1 ⟨rfl, h1, h2⟩
      replace h1 := Lib.hid h1
      replace h2 := Lib.hid h2
      go_wp2
      refine bodyPost_ret (results_none rfl _ _ _) rfl ?_
      exact hfin.out _ h1.out h2.out
    have hd0 : decide ((l : Int) ≤ 12) = false := by simp; omega
    have hd1 : ¬ (l : Int) ≤ 12 := by omega
    by_cases h0 : lim2 = 0
    · subst h0
      have H := Lib.hid (heap_i wr g cap len dk a2 b2 X.out.row X.out.size hsz hab2 hbl)
      have hfin : Hid (∀ w1, RowI w1 g (Sort.heapSort Sort.ltInt dk a2 b2) → Fr (· = g) wr w1 → PdqP w g a b d (.returned (.tuple #[])) w1) := by
        intro w1 h1 h2
        obtain ⟨h3, h4⟩ := Sort.heapSort_holds (lt := Sort.ltInt) Sort.swo_ltInt dk a2 b2 hab2 (by rw [X.out.size]; exact hbl)
        exact X.out.done h3 h4 h1 h2
      go_wp2_with fail
      refine H.out.mono ?_
      rintro e w1 ⟨rfl, h1, h2⟩
      replace h1 := Lib.hid h1
      replace h2 := Lib.hid h2
      go_wp2
      refine bodyPost_ret (results_none rfl _ _ _) rfl ?_
      exact hfin.out _ h1.out h2.out
    have h00 : ((lim2 : Int) == 0) = false := by simp; omega
    have h01 : ¬ (lim2 : Int) = 0 := by omega
    have h13 : a2 + 12 < b2 := by omega
    go_upto_if 35 with fail
    go_cut [3] (fun vl wr => ∃ lim3 : Nat, ∃ d1 : Array Int, vl = .int .i64 lim3 ∧ lim3 ≤ 64 ∧ Hid (PS w g len a b d a2 b2 d1 wr))
    case first =>
      cases wb with
      | true =>
        go_wp2
        go_meet
        case rel => exact ⟨lim2, dk, rfl, hl2, X⟩
      | false =>
        have H := Lib.hid (break_i wr g cap len dk a2 b2 X.out.row X.out.size hsz h13 hbl)
        have el : (lim2 : Int) - 1 = ((lim2 - 1 : Nat) : Int) := by omega
        go_wp2_with fail
        refine H.out.mono ?_
        rintro e w1 ⟨rfl, d1, h1, h2, h3⟩
        have X1 := Lib.hid (X.out.perm hbl h1 h2 h3)
        clear h1 h2 h3 H
        go_wp2
        go_meet
        case rel => exact ⟨lim2 - 1, d1, by go_num, by omega, X1⟩
    case rest =>
      clear X h00 h01 h0 hl2
      obtain ⟨lim3, d1, rfl, hl3, X⟩ := hcut
      have H := Lib.hid (pivot_i wc g cap len d1 a2 b2 X.out.row X.out.size hsz h13 hbl)
      go_upto_if 50 with fail
      refine H.out.mono ?_
      rintro e w1 ⟨p, h, rfl, hp1, hp2, hh, hF⟩
      have X1 : Hid (PS w g len a b d a2 b2 d1 w1) := X.out.perm hbl (Sort.permIn_refl _ _ _) (X.out.row.frame hF fun h => h) (Fr.of_below (hF.below (Nat.le_refl _) fun _ h => h.elim) _)
      clear H hF X
      go_upto_if 50 with fail
      go_cut [11, 12] (fun vp vh wr => ∃ p2 h2 : Nat, ∃ d2 : Array Int, vp = .int .i64 p2 ∧ vh = .int .i64 h2 ∧ a2 ≤ p2 ∧ p2 < b2 ∧ Hid (PS w g len a b d a2 b2 d2 wr))
      case first =>
        by_cases hh2 : h = 2
        · subst hh2
          have H := Lib.hid (rev_i w1 g cap len d1 a2 b2 X1.out.row X1.out.size hsz (by omega) hbl)
          have f0 : (b2 : Int) - 1 = ((b2 - 1 : Nat) : Int) := by omega
          have f1 : (p : Int) - (a2 : Int) = ((p - a2 : Nat) : Int) := by omega
          have f2 : IntKind.i64.wrap ((p : Int) - (a2 : Int)) = ((p - a2 : Nat) : Int) := by rw [IntWalk.i64_in _ ⟨by omega, by omega⟩]; omega
          have f3 : ((b2 - 1 : Nat) : Int) - ((p - a2 : Nat) : Int) = ((b2 - 1 - (p - a2) : Nat) : Int) := by omega
          have f4 : IntKind.i64.wrap (((b2 - 1 : Nat) : Int) - ((p - a2 : Nat) : Int)) = ((b2 - 1 - (p - a2) : Nat) : Int) := by rw [IntWalk.i64_in _ ⟨by omega, by omega⟩]; omega
          go_wp2_with fail
          refine H.out.mono ?_
          rintro e w2 ⟨rfl, d2, h1, h2, h3⟩
          have X2 := Lib.hid (X1.out.perm hbl h1 h2 h3)
          clear h1 h2 h3 H
          go_wp2
          go_meet
          case rel => exact ⟨b2 - 1 - (p - a2), 1, d2, by go_num, rfl, by omega, by omega, X2⟩
        · have hd2 : ((h : Int) == 2) = false := by simp; omega
          have hd3 : ¬ (h : Int) = 2 := by omega
          go_wp2
          go_meet
          case rel => exact ⟨p, h, d1, rfl, rfl, hp1, hp2, X1⟩
      case rest =>
        clear X1 hp1 hp2 hh
        obtain ⟨p2, h2, d2, rfl, rfl, hp1, hp2, X⟩ := hcut
        go_upto_region 15 with fail
        go_cut [68] (fun v wr => ∃ c : Bool, v = .bool c ∧ Hid (PS w g len a b d a2 b2 d2 wr))
        case first =>
          cases wb <;> cases wp <;> by_cases hh1 : h2 = 1
          all_goals (first | subst hh1 | (have hd2 : ((h2 : Int) == 1) = false := by simp; omega))
          all_goals go_wp2
          all_goals go_meet
          all_goals exact ⟨_, rfl, X⟩
        case rest =>
          clear X
          obtain ⟨c, rfl, X⟩ := hcut
          go_upto_if 68 with fail
          go_cut [] (fun wr => ∃ d3 : Array Int, Hid (PS w g len a b d a2 b2 d3 wr))
          case first =>
            cases c with
            | false =>
              go_wp2
              go_meet
              case rel => exact ⟨d2, X⟩
            | true =>
              have H := Lib.hid (pins_i wc g cap len d2 a2 b2 X.out.row X.out.size hsz (by omega) hbl)
              have hps := Sort.partialInsertionSort_holds (lt := Sort.ltInt) Sort.swo_ltInt d2 a2 b2 (by omega) (by rw [X.out.size]; exact hbl) X.out.below
              obtain ⟨D, hD⟩ : ∃ D, D = Sort.partialInsertionSort Sort.ltInt d2 a2 b2 := ⟨_, rfl⟩
              rw [← hD] at H hps
              obtain ⟨d3, r⟩ := D
              replace hps := Lib.hid hps
              clear hD
              cases r with
              | true =>
                go_wp2_with fail
                refine H.out.mono ?_
                rintro e w2 ⟨rfl, h1, h3⟩
                have hfin := Lib.hid (X.out.done hps.out.1 (by first | exact hps.out.2 rfl | exact hps.out.2 trivial) h1 h3)
                clear h1 h3 H
                go_wp2
                refine bodyPost_ret (results_none rfl _ _ _) rfl ?_
                exact hfin.out
              | false =>
                go_wp2_with fail
                refine H.out.mono ?_
                rintro e w2 ⟨rfl, h1, h3⟩
                have X2 := Lib.hid (X.out.perm hbl hps.out.1 h1 h3)
                clear h1 h3 H
                go_wp2
                go_meet
                case rel => exact ⟨d3, X2⟩
          case rest =>
            clear X
            obtain ⟨d3, X⟩ := hcut
            go_upto_region 17 with fail
            go_cut [87] (fun v wr => ∃ c : Bool, v = .bool c ∧ (c = true → 0 < a2 ∧ Sort.ltInt d3[a2 - 1]! d3[p2]! = false) ∧ Hid (PS w g len a b d a2 b2 d3 wr))
            case first =>
              by_cases ha0 : 0 < a2
              · have hsz2 := X.out.size
                have g1 : (a2 : Int) - 1 = ((a2 - 1 : Nat) : Int) := by omega
                have g2 : (0 : Int) ≤ ((a2 - 1 : Nat) : Int) := by omega
                have c0 := X.out.row.cell (i := a2 - 1) (by omega)
                have c1 := X.out.row.cell (i := p2) (by omega)
                have l0 : a2 - 1 < len := by omega
                have l1 : p2 < len := by omega
                have hd2 : decide ((0 : Int) < (a2 : Int)) = true := by simp; omega
                have hd3 : (0 : Int) < (a2 : Int) := by omega
                clear hsz2
                by_cases hlt : d3[a2 - 1]! < d3[p2]!
                · have X1 : Hid (∀ n, PS w g len a b d a2 b2 d3 (wc.drewN n)) := fun n => ⟨X.out.row, X.out.size, X.out.fr.drewN _, X.out.below, X.out.fin⟩
                  generalize hx0 : d3[a2 - 1]! = x0 at c0 hlt
                  generalize hx1 : d3[p2]! = x1 at c1 hlt
                  replace hx0 := Lib.hid hx0
                  replace hx1 := Lib.hid hx1
                  have hd4 : decide (x0 < x1) = true := by simp; omega
                  go_wp2
                  go_quiet ((go_at_call 75; first | exact Calls.quiet_of_same (less_i _ _ _) | exact less_q _ _ _ _ _))
                  go_wp2
                  go_meet
                  case rel => exact ⟨_, rfl, by simp, X1.out _⟩
                · have X1 : Hid (∀ n, PS w g len a b d a2 b2 d3 (wc.drewN n)) := fun n => ⟨X.out.row, X.out.size, X.out.fr.drewN _, X.out.below, X.out.fin⟩
                  have hlf : Hid (Sort.ltInt d3[a2 - 1]! d3[p2]! = false) := by unfold Hid; simp [Sort.ltInt]; omega
                  generalize hx0 : d3[a2 - 1]! = x0 at c0 hlt hlf
                  generalize hx1 : d3[p2]! = x1 at c1 hlt hlf
                  replace hx0 := Lib.hid hx0
                  replace hx1 := Lib.hid hx1
                  have hd4 : decide (x0 < x1) = false := by simp; omega
                  go_wp2
                  go_quiet ((go_at_call 75; first | exact Calls.quiet_of_same (less_i _ _ _) | exact less_q _ _ _ _ _))
                  go_wp2
                  go_meet
                  case rel => exact ⟨_, rfl, fun _ => ⟨ha0, by first | exact hlf.out | (rw [hx0.out, hx1.out]; exact hlf.out)⟩, X1.out _⟩
              · have X1 : Hid (∀ n, PS w g len a b d a2 b2 d3 (wc.drewN n)) := fun n => ⟨X.out.row, X.out.size, X.out.fr.drewN _, X.out.below, X.out.fin⟩
                have hd2 : decide ((0 : Int) < (a2 : Int)) = false := by simp; omega
                have hd3 : ¬ (0 : Int) < (a2 : Int) := by omega
                go_wp2
                go_quiet (fail)
                go_wp2
                go_meet
                case rel => exact ⟨_, rfl, by simp, X1.out _⟩
            case rest =>
              clear X
              obtain ⟨c, rfl, hc, X⟩ := hcut
              replace hc := Lib.hid hc
              cases c with
              | true =>
                have H := Lib.hid (parteq_i wc g cap len d3 a2 b2 p2 X.out.row X.out.size hsz hp1 hp2 hbl)
                obtain ⟨D, hD⟩ : ∃ D, D = Sort.partitionEqual Sort.ltInt d3 a2 b2 p2 := ⟨_, rfl⟩
                rw [← hD] at H
                obtain ⟨mid, d4⟩ := D
                obtain ⟨q1, q2, q3, q4, q5⟩ := Sort.round_eq Sort.swo_ltInt (Sort.partitionEqual_holds Sort.ltInt) (hc.out rfl).1 hp1 hp2 (by rw [X.out.size]; exact hbl) X.out.below (hc.out rfl).2 hD.symm
                have q5' := Lib.hid q5
                have q4' := Lib.hid q4
                have q3' := Lib.hid q3
                clear hD q3 q4 q5 hc
                go_wp2_with fail
                refine H.out.mono ?_
                rintro e w2 ⟨rfl, h1, h3⟩
                have X2 : Hid (PS w g len a b d mid b2 d4 w2) := ⟨h1, q3'.out.trans X.out.size, X.out.fr.trans h3 fun _ _ h => h, q4'.out, fun R h5 h6 => X.out.fin R (q5'.out R h5 h6).1 (q5'.out R h5 h6).2⟩
                clear h1 h3 H
                go_wp2
                go_roundw
                case rel => exact ⟨mid, b2, lim3, wb, wp, d4, by omega, q2, hb2, hl3, rfl, rfl, rfl, rfl, rfl, X2⟩
                case measure => simp [intOf]; omega
              | false =>
                clear hc
                have H := Lib.hid (partition_i wc g cap len d3 a2 b2 p2 X.out.row X.out.size hsz hp1 hp2 hbl)
                obtain ⟨D, hD⟩ : ∃ D, D = Sort.partition Sort.ltInt d3 a2 b2 p2 := ⟨_, rfl⟩
                rw [← hD] at H
                obtain ⟨mid, ap, d4⟩ := D
                obtain ⟨q1, q2, q3, q4, q5, q6, q7⟩ := Sort.round_part Sort.swo_ltInt (Sort.partition_holds Sort.ltInt) hp1 hp2 (by rw [X.out.size]; exact hbl) X.out.below hD.symm
                have q3' : Hid (d4.size = len) := q3.trans X.out.size
                have q4' := Lib.hid q4
                have q5' := Lib.hid q5
                have q6' := Lib.hid q6
                have q7' := Lib.hid q7
                clear hD q3 q4 q5 q6 q7
                have t1 : (mid : Int) - (a2 : Int) = ((mid - a2 : Nat) : Int) := by omega
                have t2 : (b2 : Int) - (mid : Int) = ((b2 - mid : Nat) : Int) := by omega
                have t3 : IntKind.i64.wrap ((mid : Int) - (a2 : Int)) = ((mid - a2 : Nat) : Int) := by rw [IntWalk.i64_in _ ⟨by omega, by omega⟩]; omega
                have t4 : IntKind.i64.wrap ((b2 : Int) - (mid : Int)) = ((b2 - mid : Nat) : Int) := by rw [IntWalk.i64_in _ ⟨by omega, by omega⟩]; omega
                have t5 : (l : Int).tdiv 8 = ((l / 8 : Nat) : Int) := rfl
                by_cases hmm : mid - a2 < b2 - mid
                · have hd4 : decide (((mid - a2 : Nat) : Int) < ((b2 - mid : Nat) : Int)) = true := by simp; omega
                  have hd5 : ((mid - a2 : Nat) : Int) < ((b2 - mid : Nat) : Int) := by omega
                  go_wp2_with fail
                  refine H.out.mono ?_
                  rintro e w2 ⟨rfl, h1, h3⟩
                  have hcall := Lib.hid (IH.out w2 d4 a2 mid lim3 (by omega) h1 q3'.out (by omega) (by omega) hl3 q4'.out)
                  replace h3 := Lib.hid h3
                  clear h1 H
                  go_wp2_with fail
                  refine hcall.out.mono ?_
                  rintro e w3 ⟨rfl, L, h5, h6, h7, h8⟩
                  have X2 : Hid (PS w g len a b d (mid + 1) b2 L w3) := ⟨h7, h5.1.trans q3'.out, (X.out.fr.trans h3.out fun _ _ h => h).trans h8 fun _ _ h => h, (q6'.out L h5 h6).1, fun R g5 g6 => X.out.fin R ((q6'.out L h5 h6).2 R g5 g6).1 ((q6'.out L h5 h6).2 R g5 g6).2⟩
                  clear h5 h6 h7 h8 hcall h3
                  go_wp2
                  go_roundw
                  case rel => exact ⟨mid + 1, b2, lim3, _, _, L, by omega, by omega, hb2, hl3, by go_num, rfl, rfl, rfl, rfl, X2⟩
                  case measure => simp [intOf]; omega
                · have hd4 : decide (((mid - a2 : Nat) : Int) < ((b2 - mid : Nat) : Int)) = false := by simp; omega
                  have hd5 : ¬ ((mid - a2 : Nat) : Int) < ((b2 - mid : Nat) : Int) := by omega
                  go_wp2_with fail
                  refine H.out.mono ?_
                  rintro e w2 ⟨rfl, h1, h3⟩
                  have hcall := Lib.hid (IH.out w2 d4 (mid + 1) b2 lim3 (by omega) h1 q3'.out (by omega) (by omega) hl3 q5'.out)
                  rw [show ((mid + 1 : Nat) : Int) = (mid : Int) + 1 from by omega] at hcall
                  replace h3 := Lib.hid h3
                  clear h1 H
                  go_wp2_with fail
                  refine hcall.out.mono ?_
                  rintro e w3 ⟨rfl, L, h5, h6, h7, h8⟩
                  have X2 : Hid (PS w g len a b d a2 mid L w3) := ⟨h7, h5.1.trans q3'.out, (X.out.fr.trans h3.out fun _ _ h => h).trans h8 fun _ _ h => h, (q7'.out L h5 h6).1, fun R g5 g6 => X.out.fin R ((q7'.out L h5 h6).2 R g5 g6).1 ((q7'.out L h5 h6).2 R g5 g6).2⟩
                  clear h5 h6 h7 h8 hcall h3
                  go_wp2
                  go_roundw
                  case rel => exact ⟨a2, mid, lim3, _, _, L, by omega, by omega, by omega, hl3, rfl, rfl, rfl, rfl, rfl, X2⟩
                  case measure => simp [intOf]; omega

theorem pdq_srt {w : World} {g : Nat} {d : Array Int} {e : Ending} {w' : World} (h : PdqP w g 0 d.size d e w') : e = .returned (.tuple #[]) ∧ RowI w' g (srt d.toList).toArray ∧ Fr (· = g) w w' := by
  obtain ⟨he, d', h1, h2, h3, h4⟩ := h
  have hu := Sort.sorted_unique_holds Sort.swo_ltInt (fun x y h1 h2 => by simp only [Sort.ltInt, decide_eq_false_iff_not] at h1 h2; omega) d _ h1 h2
  have e2 : d' = (srt d.toList).toArray := by
    rw [← Array.toList_inj, hu]
    unfold srt
    simp only []
    congr 1
    funext x y
    simp only [Sort.ltInt]
    rw [← decide_not]
    congr 1
    simp
  rw [← e2]
  exact ⟨he, h3, h4⟩

set_option maxHeartbeats 400000 in
/-- **slices.Sort sorts.** -/
theorem sort_all : SortOk 35184372088832 := by
  intro w g cap d hd hsz
  obtain ⟨len, hlen⟩ : ∃ len, d.size = len := ⟨_, rfl⟩
  have hn := Lib.bitLen_le len 46 (by omega) (by omega)
  have HL := Lib.hid (bits_Len (len : Int) w (by omega) (by omega))
  rw [show ((len : Int)).toNat = len from by omega] at HL
  generalize Lib.bitLen len = n at HL hn
  have H := pdq_i g cap len (by omega) (len + 1) w d 0 len n (by omega) hd hlen (Nat.zero_le _) (Nat.le_refl _) (by omega) (.inl rfl)
  rw [← hlen] at H
  have H2 := H.mono fun e w' h => pdq_srt h
  rw [hlen] at H2 ⊢
  replace H2 := Lib.hid H2
  have u0 : IntKind.u64.wrap (len : Int) = (len : Int) := wraps_u64 _ (by omega) (by omega)
  clear hd H hlen
  generalize (srt d.toList).toArray = ds at H2 ⊢
  go_enter Try.func62, Try.ntmps62
  go_wp2_with fail
  refine HL.out.mono ?_
  rintro e w' ⟨rfl, rfl⟩
  go_wp2_with fail
  refine H2.out.mono ?_
  rintro e w' ⟨rfl, h1, h2⟩
  replace h1 := Lib.hid h1
  replace h2 := Lib.hid h2
  go_wp2
  go_end0
  exact ⟨rfl, h1.out, h2.out⟩
end Go.Proofs.Ytioflglfnalcaaa

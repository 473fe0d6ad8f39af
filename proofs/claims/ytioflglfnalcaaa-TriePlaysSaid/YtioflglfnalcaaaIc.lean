/- Below, All and their iterator at Trie[string], part c: printed by inst2.py from the texts of Trie[int]. -/
import Derived.Laws.EntriesVeiled
import Derived.Test.YtioflglfnalcaaaRf
import Derived.Test.YtioflglfnalcaaaIb
namespace Go.Proofs.Ytioflglfnalcaaa.S
open Go.RowKit Go.Shelf
attribute [local go_sem] Oper.semAt_some

set_option maxHeartbeats 1000000 in
set_option maxRecDepth 100000 in
theorem below_i {N D : Nat} (hS : SortOk N) (hN : N ≤ 35184372088832) (hD : D ≤ 35184372088000) (w : World) (t : Nat) (T : AT) (A : Option Addr) (cap : Nat) (zs : List Int) (R : Rep Ls w t T) (hA : RdI w A zs) (hn : A = none → cap = 0)
    (hlen : zs.length ≤ 35184372088000) (hst : T.Small 35184372088000 N) (hint : ∀ p v, T.f p = some v → ∃ x, v = .string x) (hdeep : ∀ p, (T.N p).isSome → p.length < D) (hres : (belowRes T D zs).length ≤ 5864062014805) :
    Calls Try.prog 20 #[ptr t, .slice A zs.length cap] w (BelowPost 43 73 9 52 w (belowRes T D zs)) := by
  have HR := Lib.hid R
  have HA := Lib.hid hA
  clear hA R
  obtain ⟨w1, hw1⟩ : ∃ w1, w1 = ((w.alloc (.cells #[.slice none 0 0] 43)).alloc (.cells #[.slice none 0 0] 73)).alloc (.cells #[.func (.func 49) #[] #[.pointer (some ⟨w.heap.size, 0, none⟩), .pointer (some ⟨w.heap.size + 1, 0, none⟩), .pointer (some ⟨w.heap.size + 1 + 1, 0, none⟩)]] 96) := ⟨_, rfl⟩
  have hb1 : Below w.heap.size w w1 := by
    rw [hw1]
    exact (((Below.refl _ w).alloc (Nat.le_refl _) _).alloc (by simp) _).alloc (by simp; omega) _
  have hx0 : Boxed w1 w.heap.size 43 (.slice none 0 0) := by
    have := heap_alloc_eq w (.cells #[.slice none 0 0] 43)
    rw [hw1]
    exact heap_alloc_old2 (heap_alloc_old2 this)
  have hx1 : Boxed w1 (w.heap.size + 1) 73 (.slice none 0 0) := by
    have := heap_alloc_eq (w.alloc (.cells #[.slice none 0 0] 43)) (.cells #[.slice none 0 0] 73)
    rw [hw1]
    exact heap_alloc_old2 (by simpa using this)
  have hx2 : Boxed w1 (w.heap.size + 1 + 1) 96 (.func (.func 49) #[] #[.pointer (some ⟨w.heap.size, 0, none⟩), .pointer (some ⟨w.heap.size + 1, 0, none⟩), .pointer (some ⟨w.heap.size + 1 + 1, 0, none⟩)]) := by
    have := heap_alloc_eq ((w.alloc (.cells #[.slice none 0 0] 43)).alloc (.cells #[.slice none 0 0] 73)) (.cells #[.func (.func 49) #[] #[.pointer (some ⟨w.heap.size, 0, none⟩), .pointer (some ⟨w.heap.size + 1, 0, none⟩), .pointer (some ⟨w.heap.size + 1 + 1, 0, none⟩)]] 96)
    rw [hw1]
    simpa [Boxed] using this
  have hC0 := Lib.hid (Coll.nil (ei := 9) (Nat.le_refl _) (Nat.le_succ _) hx0 hx1)
  have HR1 : Hid (Rep Ls w1 t T) := HR.out.frame (Fr.of_below hb1 Nob) fun _ _ h => h
  have HA1 : Hid (RdI w1 A zs) := by
    intro k hk
    obtain ⟨b, off, e, hc⟩ := HA.out k hk
    refine ⟨b, off, e, ?_⟩
    rw [← hc]
    refine hb1.cell (p := ⟨b, off + k, none⟩) ?_
    exact cell_lt hc
  have hf := find_s w1 t T A cap zs HR1.out (by omega) HA1.out
  have hw1' := Lib.hid hw1
  rw [hw1] at hf
  clear hw1
  replace hf := Lib.hid hf
  go_enter Try.func20, Try.ntmps20
  go_wp2_with fail
  refine hf.out.mono ?_
  rintro e w2 ⟨rfl, rfl⟩
  rw [← hw1'.out]
  clear hf hw1'
  cases hNz : T.N zs with
  | none =>
    have hB : Hid (belowRes T D zs = []) := Lib.hid (by simp only [belowRes, hNz])
    have HP : Hid (BelowPost 43 73 9 52 w [] (.returned (.func (.func 52) #[] #[.pointer (some ⟨w.heap.size, 0, none⟩), .pointer (some ⟨w.heap.size + 1, 0, none⟩)])) w1) := ⟨_, _, _, _, _, rfl, hC0.out, hb1⟩
    clear hNz
    rw [show optPtr none = .pointer none from rfl]
    go_wp2
    go_ret
    rw [hB.out]
    exact HP.out
  | some c =>
    have hB : Hid (belowRes T D zs = dfs T (D - zs.length) zs) := Lib.hid (by simp only [belowRes, hNz])
    rw [hB.out] at hres
    have hdl : zs.length < D := hdeep zs (by rw [hNz]; rfl)
    have hwalk := Lib.hid (walk_i hS hN hD t T w.heap.size w.heap.size (w.heap.size + 1) (w.heap.size + 1 + 1) hst (fun k hk => HR.out.lt hk) hint hdeep (D - zs.length) zs (by omega))
    replace hNz := Lib.hid hNz
    rw [show optPtr (some c) = ptr c from rfl]
    go_wp2
    refine wp_region_closed (by kernel_rfl) (by kernel_rfl) (J7 w1 c (.slice A zs.length cap) (.func (.func 49) #[] #[.pointer (some ⟨w.heap.size, 0, none⟩), .pointer (some ⟨w.heap.size + 1, 0, none⟩), .pointer (some ⟨w.heap.size + 1 + 1, 0, none⟩)]) zs
      (fun W => WPost w.heap.size w1 w.heap.size (w.heap.size + 1) [] [] (dfs T (D - zs.length) zs) (.returned (.tuple #[])) W)
      [ptr t, .slice A zs.length cap, undef, undef, .nilFunc, .pointer (some ⟨w.heap.size, 0, none⟩), .pointer (some ⟨w.heap.size + 1, 0, none⟩), .pointer (some ⟨w.heap.size + 1 + 1, 0, none⟩), ptr c,
        .func (.func 49) #[] #[.pointer (some ⟨w.heap.size, 0, none⟩), .pointer (some ⟨w.heap.size + 1, 0, none⟩), .pointer (some ⟨w.heap.size + 1 + 1, 0, none⟩)], ptr t, .slice A zs.length cap, ptr c, ptr c, .bool true] undef) ?_ ?_ ?_
    · refine ⟨undef, undef, undef, undef, undef, rfl, fun _ => ?_, (nomatch ·)⟩
      exact { hb := (Below.refl _ _).drew, e0 := (nomatch ·), e1 := (nomatch ·), e2 := (nomatch ·), e3 := (nomatch ·) }
    · intro i o L a w2 ho hL hpre hcl hJ
      have hi : i < 5 := by
        rcases Nat.lt_or_ge i 5 with h | h
        · exact h
        · rw [Array.getElem?_eq_none (by simpa using h)] at ho; cases ho
      obtain ⟨x15, x16, x17, x18, x19, rfl, hJ1, hJ2⟩ := hJ
      have h4 : L 4 = false := by
        cases h : L 4 with
        | false => rfl
        | true =>
          rcases (by omega : i < 4 ∨ i = 4) with h1 | h1
          · have := (hJ2 h).2 i h1; rw [hL] at this; cases this
          · subst h1; rw [hL] at h; cases h
      have hR := hJ1 h4
      have HR7 := Lib.hid hR
      have hBB := hR.hb
      have hx2' : w2.heap[w.heap.size + 1 + 1]? = some (.cells #[.func (.func 49) #[] #[.pointer (some ⟨w.heap.size, 0, none⟩), .pointer (some ⟨w.heap.size + 1, 0, none⟩), .pointer (some ⟨w.heap.size + 1 + 1, 0, none⟩)]] 96 (0, 0)) := boxed_new hx2 hBB
      have cbw : w2.cell? ⟨w.heap.size + 1 + 1, 0, none⟩ = some (.func (.func 49) #[] #[.pointer (some ⟨w.heap.size, 0, none⟩), .pointer (some ⟨w.heap.size + 1, 0, none⟩), .pointer (some ⟨w.heap.size + 1 + 1, 0, none⟩)]) := Boxed.cell hx2'
      replace hx2' := Lib.hid hx2'
      have hA2 : RdI w2 A zs := fun k hk => by
        obtain ⟨b, off, e, hc⟩ := HA1.out k hk
        exact ⟨b, off, e, (hBB.cell (p := ⟨b, off + k, none⟩) (cell_lt hc)).trans hc⟩
      have hclone := Lib.hid (clone_i w2 A cap zs hA2 (by omega) hn)
      have hC2 := hC0.out.new hBB
      have hRep2 : Rep Ls w2 t T := HR1.out.frame (Fr.of_below hBB Nob) fun _ _ h => h
      clear hJ1 hJ2 hA2
      rcases (by omega : i = 0 ∨ i = 1 ∨ i = 2 ∨ i = 3 ∨ i = 4) with rfl | rfl | rfl | rfl | rfl
      · cases ho
        clear hR hpre hBB hC2 hRep2
        unfold fr7
        simp only [List.cons_append, List.nil_append]
        go_simp
        exact ⟨_, _, _, _, _, rfl, fun _ => { HR7.out with e0 := fun _ => rfl }, fun e => absurd (show L 4 = true from e) (by rw [h4]; decide)⟩
      · cases ho
        clear hR hpre hBB hC2 hRep2
        unfold fr7
        simp only [List.cons_append, List.nil_append]
        go_simp
        exact ⟨_, _, _, _, _, rfl, fun _ => { HR7.out with e1 := fun _ => rfl }, fun e => absurd (show L 4 = true from e) (by rw [h4]; decide)⟩
      · cases ho
        clear hR hpre hBB hC2 hRep2
        unfold fr7
        simp only [List.cons_append, List.nil_append]
        go_simp
        exact ⟨_, _, _, _, _, rfl, fun _ => { HR7.out with e2 := fun _ => rfl }, fun e => absurd (show L 4 = true from e) (by rw [h4]; decide)⟩
      · cases ho
        obtain rfl := hR.e2 (hpre ⟨2, .data⟩ (by simp) rfl)
        clear hR hpre hBB hC2 hRep2
        unfold fr7
        simp only [List.cons_append, List.nil_append]
        go_simp
        refine hclone.out.mono ?_
        rintro e w3 ⟨A2, cap2, rfl, g1, g2, g3, g4, g5⟩
        have hR2 := HR7.out.new g5
        exact ⟨_, _, _, _, _, rfl, fun _ => { hR2 with e3 := fun _ => ⟨_, _, rfl, g3, g2, g1⟩ }, fun e => absurd (show L 4 = true from e) (by rw [h4]; decide)⟩
      · cases ho
        have h0 : L 0 = true := hpre ⟨0, .data⟩ (by simp) rfl
        have h1 : L 1 = true := hpre ⟨1, .data⟩ (by simp) rfl
        have h3 : L 3 = true := hpre ⟨3, .data⟩ (by simp) rfl
        have h2 : L 2 = true := hcl 3 _ rfl h3 ⟨2, .data⟩ (by simp) rfl
        have hall : Hid (∀ i, i < 4 → L i = true) := by
          intro i hi
          rcases (by omega : i = 0 ∨ i = 1 ∨ i = 2 ∨ i = 3) with rfl | rfl | rfl | rfl <;> assumption
        obtain rfl := hR.e0 h0
        obtain rfl := hR.e1 h1
        obtain ⟨A2, cap2, rfl, g1, g2, g3⟩ := hR.e3 h3
        have hcall := Lib.hid (hwalk.out w2 c A2 cap2 _ _ _ _ _ hRep2 hNz.out g1 g2 g3 (by omega) hC2 hx2'.out (by simpa using hres) (by simpa using hres))
        clear hR hpre hcl hC2 hRep2 h0 h1 h2 h3
        unfold fr7
        simp only [List.cons_append, List.nil_append]
        go_simp
        refine hcall.out.mono ?_
        rintro e w3 ⟨rfl, hq1, hq2⟩
        refine ⟨_, _, _, _, _, rfl, (nomatch ·), fun _ => ⟨⟨rfl, hq1, (FB.of_below hBB).trans hq2⟩, fun i hi => ?_⟩⟩
        show (decide (i = 4) || L i) = true
        rw [hall.out i hi]; simp
    · rintro L a w2 hall ⟨x15, x16, x17, x18, x19, rfl, hJ1, hJ2⟩
      obtain ⟨-, ⟨rv, tv, rvals, hC⟩, hF⟩ := (hJ2 (hall 4 (by decide))).1
      have HP : Hid (BelowPost 43 73 9 52 w (dfs T (D - zs.length) zs) (.returned (.func (.func 52) #[] #[.pointer (some ⟨w.heap.size, 0, none⟩), .pointer (some ⟨w.heap.size + 1, 0, none⟩)])) w2) :=
        ⟨_, _, _, _, _, rfl, by simpa using hC, hb1.trans (hF.below hb1.size)⟩
      clear hJ1 hJ2 hC hF hall
      unfold fr7
      simp only [List.cons_append, List.nil_append]
      go_wp2
      go_ret
      rw [hB.out]
      exact HP.out

set_option maxHeartbeats 400000 in
set_option maxRecDepth 100000 in
theorem all_i {N D : Nat} (hS : SortOk N) (hN : N ≤ 35184372088832) (hD : D ≤ 35184372088000) (w : World) (t : Nat) (T : AT) (R : Rep Ls w t T)
    (hst : T.Small 35184372088000 N) (hint : ∀ p v, T.f p = some v → ∃ x, v = .string x) (hdeep : ∀ p, (T.N p).isSome → p.length < D) (hres : (belowRes T D []).length ≤ 5864062014805) :
    Calls Try.prog 19 #[ptr t] w (BelowPost 43 73 9 52 w (belowRes T D [])) := by
  have hb := Lib.hid (below_i hS hN hD w t T none 0 [] R (fun k hk => absurd hk (Nat.not_lt_zero k)) (fun _ => rfl) (by simp) hst hint hdeep hres)
  go_enter Try.func19, Try.ntmps19
  go_wp2_with fail
  refine hb.out.mono ?_
  rintro e w2 ⟨br, bt, rv, tv, rvals, rfl, h2, h3⟩
  have HP : Hid (BelowPost 43 73 9 52 w (belowRes T D []) (.returned (.func (.func 52) #[] #[ptr br, ptr bt])) w2) := ⟨_, _, _, _, _, rfl, h2, h3⟩
  go_wp2
  go_ret
  exact HP.out

set_option maxHeartbeats 1000000 in
set_option maxRecDepth 100000 in
theorem iter_i (n l br bt B : Nat) (rv tv : Value) (rvals : List Value) (res : List (List Int × Value)) (J : Nat → World → Prop) (Jx : World → Prop) (hY : YieldsOk n l res J Jx)
    (hC : ∀ k W, J k W → Coll 43 73 9 B W br bt rv tv rvals (res.map (·.2)) (res.map (·.1))) (hlen : ∀ x ∈ res, x.1.length ≤ 35184372088832) (hN : res.length ≤ 35184372088832) (W : World) (h0 : J 0 W) :
    CallsIn Fence.wide n Try.prog 52 #[.func (.yield l) #[] #[], ptr br, ptr bt] W fun e W' => (∃ v, e = .returned v) ∧ (J res.length W' ∨ Jx W') := by
  have HC := Lib.hid hC
  have HY := Lib.hid hY
  have Hlen := Lib.hid hlen
  have c0 := (hC 0 W h0).box.cell
  have hl0 : ∃ A cap, rv = .slice A res.length cap := by
    rcases (hC 0 W h0).own.2 with ⟨h1, h2⟩ | ⟨g, cap, cur, h1, _⟩
    · have : res.length = 0 := by simpa using h2
      exact ⟨none, 0, by rw [this]; exact h1⟩
    · exact ⟨_, cap, by simpa using h1⟩
  obtain ⟨Ar, capr, rfl⟩ := hl0
  clear hC hY hlen
  refine callsIn_of_wp Try.func52 rfl trivial ?_ rfl
  simp only [Try.ntmps52, List.size_toArray, List.length_cons, List.length_nil, Nat.reduceAdd, Nat.reduceSub, Array.replicate_succ, Array.replicate_zero, List.push_toArray, List.append_toArray, List.nil_append, List.cons_append]
  gi_wp2
  gi_loopw [8] (fun i wr => ∃ k : Nat, k ≤ res.length ∧ i = .int .i64 k ∧ Hid (J k wr)) (fun i _ => res.length - (intOf i).toNat)
  case atStart => exact ⟨0, Nat.zero_le _, rfl, Lib.hid h0⟩
  case round =>
    obtain ⟨k, hk, rfl, hJ⟩ := hrel
    by_cases hlt : k < res.length
    · have hCk := HC.out k wr hJ.out
      obtain ⟨⟨p, v⟩, hpv⟩ : ∃ x, res[k]? = some x := ⟨res[k], by simp [hlt]⟩
      obtain ⟨g, cp, u, e1, hu, hcu⟩ := own_cell hCk.own (k := k) (by simpa using hlt)
      injection e1 with e1 e2 e3
      subst e1; subst e3
      obtain ⟨g2, cp2, u2, rfl, hu2, hcu2⟩ := own_cell hCk.town (k := k) (by simpa using hlt)
      have hpn : (res.map (·.1)).getD k [] = p := by simp [List.getD, hpv]
      obtain ⟨A0, cap0, hu', hrd0, hn0⟩ := hCk.are.2 k (by simpa using hlt)
      rw [hpn] at hu' hrd0
      rw [hu] at hu'
      injection hu' with hu'
      subst hu'
      have hv2 : u2 = v := by
        rw [List.getElem?_map, hpv] at hu2
        simpa using hu2.symm
      subst hv2
      have cbt := hCk.tbox.cell
      have hpl : p.length ≤ 35184372088832 := Hlen.out (p, u2) (List.mem_of_getElem? hpv)
      have hrd0' := Lib.hid hrd0
      have hpv' := Lib.hid hpv
      have hb1 := hCk.tbox.lt
      have hbg2 := cell_lt hcu2
      simp only [List.length_map] at cbt
      clear hCk hrd0 hpv hpn hu hu2 HC e2 c0
      have hk1 : (0 : Int) ≤ (k : Int) := by omega
      have hk2 : (k : Int) < (res.length : Int) := by omega
      gi_wp2
      refine wpIn_region_closed (by kernel_rfl) (by kernel_rfl) (J3 wr (.func (.yield l) #[] #[]) (.slice A0 p.length cap0) (.slice (some ⟨g2, 0, none⟩) res.length cp2) u2 g2 k p (J (k + 1)) Jx
        [.func (.yield l) #[] #[], ptr br, ptr bt, undef, .int .i64 k, .slice A0 p.length cap0, .slice (some ⟨g, 0, none⟩) res.length capr, .int .i64 res.length, .int .i64 k, .bool true, .int .i64 k, .pointer (some ⟨g, k, none⟩), .slice A0 p.length cap0] u22) ?_ ?_ ?_
      · refine ⟨u13, u14, u15, u16, u17, u18, u19, u20, u21, rfl, fun _ => ?_, (nomatch ·)⟩
        exact { hb := (Below.refl _ _).drew, e0 := (nomatch ·), e1 := (nomatch ·), e2 := (nomatch ·), e3 := (nomatch ·), e4 := (nomatch ·), e5 := (nomatch ·), e6 := (nomatch ·) }
      · intro i o L a w1 ho hL hpre hcl hJJ
        have hi : i < 9 := by
          rcases Nat.lt_or_ge i 9 with h | h
          · exact h
          · rw [Array.getElem?_eq_none (by simpa using h)] at ho; cases ho
        obtain ⟨x13, x14, x15, x16, x17, x18, x19, x20, x21, rfl, hJ1, hJ2⟩ := hJJ
        rcases (by omega : i = 8 ∨ i < 8) with rfl | hi8
        · cases ho
          have h7 : L 7 = true := hpre ⟨7, .data⟩ (by simp) rfl
          obtain ⟨hall, bb, rfl, h8, hg, hn⟩ := hJ2 h7
          have hall' := Lib.hid hall
          have hg' := Lib.hid hg
          have hn' := Lib.hid hn
          clear hJ1 hJ2 hpre hcl hall hg hn h8
          unfold StepIn fr3
          simp only [List.cons_append, List.nil_append]
          go_simp
          refine ⟨_, _, _, _, _, _, _, _, _, rfl, fun e => absurd (show L 7 = false from e) (by rw [h7]; decide), fun _ => ⟨fun i hi => ?_, bb, rfl, fun _ => rfl, hg'.out, hn'.out⟩⟩
          show (decide (i = 8) || L i) = true
          rw [hall'.out i hi]; simp
        have h7 : L 7 = false := by
          cases h : L 7 with
          | false => rfl
          | true =>
            rcases (by omega : i < 7 ∨ i = 7) with h1 | h1
            · have := (hJ2 h).1 i h1; rw [hL] at this; cases this
            · subst h1; rw [hL] at h; cases h
        have hR := hJ1 h7
        have HR3 := Lib.hid hR
        have hBB := hR.hb
        have hcb : w1.cell? ⟨bt, 0, none⟩ = some (.slice (some ⟨g2, 0, none⟩) res.length cp2) := (hBB.cell (p := ⟨bt, 0, none⟩) hb1).trans cbt
        have hcv : w1.cell? ⟨g2, k, none⟩ = some u2 := (hBB.cell (p := ⟨g2, k, none⟩) hbg2).trans hcu2
        have hrw : RdT w1 A0 p := hrd0'.out.new hBB
        have hclone := Lib.hid (clone_o w1 A0 cap0 p hrw.rd hpl hn0)
        clear hJ1 hJ2 hrw
        rcases (by omega : i = 0 ∨ i = 1 ∨ i = 2 ∨ i = 3 ∨ i = 4 ∨ i = 5 ∨ i = 6 ∨ i = 7) with rfl | rfl | rfl | rfl | rfl | rfl | rfl | rfl
        · cases ho
          clear hR hpre hcl
          unfold StepIn fr3
          simp only [List.cons_append, List.nil_append]
          go_simp
          exact ⟨_, _, _, _, _, _, _, _, _, rfl, fun _ => { HR3.out with e0 := fun _ => rfl }, fun e => absurd (show L 7 = true from e) (by rw [h7]; decide)⟩
        · cases ho
          clear hR hpre hcl
          unfold StepIn fr3
          simp only [List.cons_append, List.nil_append]
          go_simp
          exact ⟨_, _, _, _, _, _, _, _, _, rfl, fun _ => { HR3.out with e1 := fun _ => rfl }, fun e => absurd (show L 7 = true from e) (by rw [h7]; decide)⟩
        · cases ho
          obtain rfl := hR.e1 (hpre ⟨1, .data⟩ (by simp) rfl)
          have hb2 := Lib.hid hBB
          clear hR hpre hcl hBB
          unfold StepIn fr3
          simp only [List.cons_append, List.nil_append]
          go_simp
          refine ⟨trivial, (by intro h; cases h), CallsIn.mono (callsIn_wide.2 hclone.out) ?_⟩
          rintro e w3 ⟨A2, cap2, rfl, g1', g2', g3', g4', g5', g6'⟩
          have h := HR3.out
          refine ⟨_, _, _, _, _, _, _, _, _, rfl, fun _ => ⟨h.hb.trans (g5'.mono h.hb.size), h.e0, h.e1, fun _ => ⟨A2, cap2, rfl, g3', g2', g1', fun ad e => ?_, World.ownsRow.mono g6' h.hb.size⟩, h.e3, h.e4, h.e5, h.e6⟩, fun e => absurd (show L 7 = true from e) (by rw [h7]; decide)⟩
          have h1 := g4' ad e
          have h2 := h.hb.size
          omega
        · cases ho
          clear hR hpre hcl
          unfold StepIn fr3
          simp only [List.cons_append, List.nil_append]
          go_simp
          exact ⟨_, _, _, _, _, _, _, _, _, rfl, fun _ => { HR3.out with e3 := fun _ => rfl }, fun e => absurd (show L 7 = true from e) (by rw [h7]; decide)⟩
        · cases ho
          clear hR hpre hcl
          unfold StepIn fr3
          simp only [List.cons_append, List.nil_append]
          go_simp
          exact ⟨_, _, _, _, _, _, _, _, _, rfl, fun _ => { HR3.out with e4 := fun _ => rfl }, fun e => absurd (show L 7 = true from e) (by rw [h7]; decide)⟩
        · cases ho
          obtain rfl := hR.e3 (hpre ⟨3, .data⟩ (by simp) rfl)
          obtain rfl := hR.e4 (hpre ⟨4, .data⟩ (by simp) rfl)
          clear hR hpre hcl
          unfold StepIn fr3
          simp only [List.cons_append, List.nil_append]
          go_simp
          exact ⟨_, _, _, _, _, _, _, _, _, rfl, fun _ => { HR3.out with e5 := fun _ => rfl }, fun e => absurd (show L 7 = true from e) (by rw [h7]; decide)⟩
        · cases ho
          obtain rfl := hR.e5 (hpre ⟨5, .data⟩ (by simp) rfl)
          clear hR hpre hcl
          unfold StepIn fr3
          simp only [List.cons_append, List.nil_append]
          go_simp
          exact ⟨_, _, _, _, _, _, _, _, _, rfl, fun _ => { HR3.out with e6 := fun _ => rfl }, fun e => absurd (show L 7 = true from e) (by rw [h7]; decide)⟩
        · cases ho
          have h0 : L 0 = true := hpre ⟨0, .data⟩ (by simp) rfl
          have h2 : L 2 = true := hpre ⟨2, .data⟩ (by simp) rfl
          have h6 : L 6 = true := hpre ⟨6, .data⟩ (by simp) rfl
          have h1 : L 1 = true := hcl 2 _ rfl h2 ⟨1, .data⟩ (by simp) rfl
          have h5 : L 5 = true := hcl 6 _ rfl h6 ⟨5, .data⟩ (by simp) rfl
          have h3 : L 3 = true := hcl 5 _ rfl h5 ⟨3, .data⟩ (by simp) rfl
          have h4 : L 4 = true := hcl 5 _ rfl h5 ⟨4, .data⟩ (by simp) rfl
          have hall : Hid (∀ i, i < 7 → L i = true) := by
            intro i hi
            rcases (by omega : i = 0 ∨ i = 1 ∨ i = 2 ∨ i = 3 ∨ i = 4 ∨ i = 5 ∨ i = 6) with rfl | rfl | rfl | rfl | rfl | rfl | rfl <;> assumption
          have h8 : L 8 = false := by
            cases h : L 8 with
            | false => rfl
            | true =>
              have := hcl 8 _ rfl h ⟨7, .data⟩ (by simp) rfl
              rw [h7] at this; cases this
          obtain rfl := hR.e0 h0
          obtain rfl := hR.e6 h6
          obtain ⟨A2, cap2, rfl, g1', g2', g3', g4', g5'⟩ := hR.e2 h2
          obtain ⟨fn, tmps, assign, body, hy, hRd⟩ := HY.out k wr w1 A2 cap2 p x19 hpv'.out hJ.out hBB g4' g1' g2' g3' g5'
          replace hRd := Lib.hid hRd
          clear hR hpre hcl h0 h1 h2 h3 h4 h5 h6 hBB
          unfold StepIn fr3
          simp only [List.cons_append, List.nil_append]
          go_simp
          refine ⟨(by intro h; cases h), RoundIn.mono hRd.out ?_⟩
          rintro e w3 (⟨rfl, hq⟩ | ⟨rfl, hq⟩)
          · refine ⟨_, _, _, _, _, _, _, _, _, rfl, (nomatch ·), fun _ => ⟨fun i hi => ?_, true, rfl, fun e => absurd (show L 8 = true from e) (by rw [h8]; decide), fun _ => hq, (nomatch ·)⟩⟩
            show (decide (i = 7) || L i) = true
            rw [hall.out i hi]; simp
          · refine ⟨_, _, _, _, _, _, _, _, _, rfl, (nomatch ·), fun _ => ⟨fun i hi => ?_, false, rfl, fun e => absurd (show L 8 = true from e) (by rw [h8]; decide), (nomatch ·), fun _ => hq⟩⟩
            show (decide (i = 7) || L i) = true
            rw [hall.out i hi]; simp
      · rintro L a w1 hall ⟨x13, x14, x15, x16, x17, x18, x19, x20, x21, rfl, hJ1, hJ2⟩
        obtain ⟨-, bb, rfl, h8, hg, hn⟩ := hJ2 (hall 7 (by decide))
        obtain rfl := h8 (hall 8 (by decide))
        cases bb with
        | true =>
          have hk3 := Lib.hid (hg rfl)
          clear hJ1 hJ2 hg hn h8 hall
          unfold fr3
          simp only [List.cons_append, List.nil_append]
          gi_wp2
          exact ⟨⟨k + 1, by omega, by simp, hk3⟩, by simp [intOf]; omega⟩
        | false =>
          have hk3 := Lib.hid (hn rfl)
          clear hJ1 hJ2 hg hn h8 hall
          unfold fr3
          simp only [List.cons_append, List.nil_append]
          gi_wp2
          refine bodyPost_ret (results_none rfl _ _ _) rfl ?_
          exact ⟨⟨_, rfl⟩, .inr hk3.out⟩
    · have e : k = res.length := by omega
      subst e
      gi_wp2
      go_end0
      exact ⟨⟨_, rfl⟩, .inl hJ.out⟩

set_option maxHeartbeats 1000000 in
theorem wp_range_rows {n br bt B : Nat} {rv tv : Value} {rvals : List Value} {res : List (List Int × Value)} {g : Operand} {ps : Array Tmp} {assign body : Code} {Q : Exit → Act → World → Prop} {a : Act} {w : World}
    (hg : a.eval g = .func (.func 52) #[] #[ptr br, ptr bt]) (hps : ps.size = 2) (I : Nat → World → Prop) (Ix : Code → World → Prop)
    (hC : ∀ k W, I k W → Coll 43 73 9 B W br bt rv tv rvals (res.map (·.2)) (res.map (·.1))) (hlen : ∀ x ∈ res, x.1.length ≤ 35184372088832) (hN : res.length ≤ 35184372088832)
    (hI : ∀ k W W', I k W → Fr (Two w.heap.size) W W' → I k W') (hIx : ∀ c W W', Ix c W → Fr (Two w.heap.size) W W' → Ix c W') (h0 : I 0 w)
    (hround : ∀ (l k : Nat) (A : Option Addr) (cap : Nat) (p : List Int) (v : Value) (W W2 : World), res[k]? = some (p, v) → RowNow w.heap.size (I k) A cap p W2 →
      assign.wpIn (Fence.wide.inRound l) (n - 1 - 1) Try.prog (Exit.then (fun a₁ w₁ => w₁ = W ∧ body.wpIn (Fence.wide.inRound l) (n - 1 - 1) Try.prog (rowPost w.heap.size (I (k + 1)) Ix W2) a₁ W2) (fun _ _ _ => False))
        { tmps := (ps.zip #[.slice A p.length cap, v]).foldl (fun t (p, v) => t.setIfInBounds p v) a.tmps, defers := [] } W)
    (hdone : ∀ W, I res.length W → W.heap[w.heap.size]? = some (.deferred (some [])) → Q .normal { a with defers := { target := .collected w.heap.size, args := #[] } :: a.defers } W)
    (hstop : ∀ c W, Ix c W → W.heap[w.heap.size]? = some (.deferred (some [])) → c.wpIn Fence.wide n Try.prog Q { a with defers := { target := .collected w.heap.size, args := #[] } :: a.defers } W) :
    (Code.rangeFunc g ps assign body).wpIn Fence.wide n Try.prog Q a w := by
  refine wpIn_rangeFunc ?_
  intro fn hfn
  rw [show Fence.wide.round = none from rfl]
  obtain ⟨rec, hrec⟩ : ∃ rec : LoopState → Option Code → Loop, rec = fun st pe => { state := st, pending := pe, fn, tmps := a.tmps, params := ps, assign, body, defers := w.heap.size } := ⟨_, rfl⟩
  obtain ⟨W1, hW1⟩ : ∃ W1, (w.alloc (.deferred (some []))).alloc (.loop (rec .ready none)) = W1 := ⟨_, rfl⟩
  have hL1 : W1.heap[w.heap.size + 1]? = some (.loop (rec .ready none)) := by
    rw [← hW1]; have := World.alloc_heap_new (w.alloc (.deferred (some []))) (.loop (rec .ready none)); rwa [World.size_alloc] at this
  have hK1 : W1.heap[w.heap.size]? = some (.deferred (some [])) := by
    rw [← hW1]; exact (Below.heap_alloc _ _ _ (by simp)).trans (World.alloc_heap_new w _)
  have hI1 : I 0 W1 := by rw [← hW1]; exact hI _ _ _ h0 (((Fr.refl _ w).alloc _).alloc _)
  refine ⟨w.heap.size + 1, [{ target := .collected w.heap.size, args := #[] }], W1, { target := .fn (.func 52) #[ptr br, ptr bt], args := #[.func (.yield (w.heap.size + 1)) #[] #[]] }, W1, 52,
    #[.func (.yield (w.heap.size + 1)) #[] #[], ptr br, ptr bt], W1, ?_, ?_, ?_, ?_, (by intro h; cases h), ?_⟩
  · rw [← hW1, hrec]; exact run_enterLoop_outer _ _ _ _ _
  · simp only [resolve, hg]
    simp [go_sem]
  · intro f' _; trivial
  · simp only [invoke]
    exact (enters_of Try.func52 (by kernel_rfl) rfl) _ _
  · refine CallsIn.mono (iter_i (n - 1) (w.heap.size + 1) br bt B rv tv rvals res
      (fun k W => I k W ∧ W.heap[w.heap.size + 1]? = some (.loop (rec .ready none)) ∧ W.heap[w.heap.size]? = some (.deferred (some [])))
      (fun W => ∃ c, Ix c W ∧ W.heap[w.heap.size + 1]? = some (.loop (rec .done (some c))) ∧ W.heap[w.heap.size]? = some (.deferred (some [])))
      ?_ (fun k W h => hC k W h.1) hlen hN W1 ⟨hI1, hL1, hK1⟩) ?_
    · -- one round
      rintro k W0 W A cap p v hkv ⟨hi, hl0, hk0⟩ hbl hfr hrd hn0 hcap hown
      have hlt0 : w.heap.size + 1 < W0.heap.size := lt_of_heap hl0
      have hl : W.heap[w.heap.size + 1]? = some (.loop (rec .ready none)) := (hbl.block _ hlt0).trans hl0
      have hk : W.heap[w.heap.size]? = some (.deferred (some [])) := (hbl.block _ (by omega)).trans hk0
      have hlt : w.heap.size + 1 < W.heap.size := lt_of_heap hl
      have hy := run_yield (P := Try.prog) (args := #[.slice A p.length cap, v]) hl (by rw [hrec]; exact hps.symm)
      rw [hrec] at hy
      have hl2 : (W.putObj (w.heap.size + 1) (.loop { rec .ready none with state := .busy })).heap[w.heap.size + 1]? = some (.loop { rec .ready none with state := .busy }) := World.putObj_heap_same hlt
      have hk2 : (W.putObj (w.heap.size + 1) (.loop { rec .ready none with state := .busy })).heap[w.heap.size]? = some (.deferred (some [])) := (World.putObj_heap_other (by omega)).trans hk
      have hF : Fr (Two w.heap.size) W0 (W.putObj (w.heap.size + 1) (.loop { rec .ready none with state := .busy })) := (Fr.of_below hbl _).trans (fr_putObj hl (.inr rfl)) fun _ _ h => h
      have hnow : RowNow w.heap.size (I k) A cap p (W.putObj (w.heap.size + 1) (.loop { rec .ready none with state := .busy })) := by
        refine ⟨⟨W0, hi, hF, by omega, fun ad e => ?_, ?_⟩, ?_, hn0, hcap⟩
        · have := hfr ad e
          have hs : (W.putObj (w.heap.size + 1) (.loop { rec .ready none with state := .busy })).heap.size = W.heap.size := by simp [World.putObj]
          omega
        · refine ⟨hown.1, ?_⟩
          rcases hown.2 with h2 | ⟨g, cap', cur, hv, hg, hh, r⟩
          · exact .inl h2
          · refine .inr ⟨g, cap', cur, hv, hg, (World.putObj_heap_other (by omega)).trans hh, r⟩
        · refine RdT.frame hrd (fr_putObj (S := (· = w.heap.size + 1)) hl rfl) fun b c f hb e => ?_
          subst e
          rw [hl] at hb; cases hb
      have fin : ∀ (jump : Option Code) (W3 : World), (∀ j, Two w.heap.size j → W3.heap[j]? = (W.putObj (w.heap.size + 1) (.loop { rec .ready none with state := .busy })).heap[j]?) →
          (Instr.endRound (w.heap.size + 1) jump).run Try.prog W3 = .ok (.bool jump.isNone) (W3.putObj (w.heap.size + 1) (.loop (rec (if jump.isNone then .ready else .done) jump))) ∧
          W3.heap[w.heap.size + 1]? = some (.loop { rec .ready none with state := .busy }) ∧
          (W3.putObj (w.heap.size + 1) (.loop (rec (if jump.isNone then .ready else .done) jump))).heap[w.heap.size + 1]? = some (.loop (rec (if jump.isNone then .ready else .done) jump)) ∧
          (W3.putObj (w.heap.size + 1) (.loop (rec (if jump.isNone then .ready else .done) jump))).heap[w.heap.size]? = some (.deferred (some [])) := fun jump W3 hk3 => by
        have hl3 := (hk3 _ (.inr rfl)).trans hl2
        have := run_endRound (P := Try.prog) jump hl3
        rw [hrec] at this ⊢
        exact ⟨this, by rw [hrec] at hl3; exact hl3, World.putObj_heap_same (lt_of_heap hl3), (World.putObj_heap_other (by omega)).trans ((hk3 _ (.inl rfl)).trans hk2)⟩
      refine ⟨fn, _, assign, body, hy, roundIn_of_wpIn hfn (wpIn_mono (hround _ k A cap p v W _ hkv hnow) ?_)⟩
      intro e a1 w1 hp0
      cases e with
      | normal =>
        obtain ⟨rfl, hp0⟩ := hp0
        refine ⟨_, run_beginRound hl (by rw [hrec]), wpIn_mono hp0 ?_⟩
        clear hp0
        rintro e a3 W3 hp
        cases e with
        | normal =>
          obtain ⟨hk3, hi3⟩ := hp
          obtain ⟨hr, hl3, hl4, hk4⟩ := fin none W3 hk3
          exact ⟨_, _, hr, .inl ⟨rfl, hI _ _ _ hi3 (fr_putObj hl3 (.inr rfl)), hl4, hk4⟩⟩
        | ret =>
          obtain ⟨hk3, hi3⟩ := hp
          obtain ⟨hr, hl3, hl4, hk4⟩ := fin (some .ret) W3 hk3
          exact ⟨_, _, hr, .inr ⟨rfl, .ret, hIx _ _ _ hi3 (fr_putObj hl3 (.inr rfl)), hl4, hk4⟩⟩
        | exit id =>
          obtain ⟨hk3, hi3⟩ := hp
          obtain ⟨hr, hl3, hl4, hk4⟩ := fin (some (.exit id)) W3 hk3
          exact ⟨_, _, hr, .inr ⟨rfl, .exit id, hIx _ _ _ hi3 (fr_putObj hl3 (.inr rfl)), hl4, hk4⟩⟩
        | goto t =>
          obtain ⟨hk3, hi3⟩ := hp
          obtain ⟨hr, hl3, hl4, hk4⟩ := fin (some (.goto t)) W3 hk3
          exact ⟨_, _, hr, .inr ⟨rfl, .goto t, hIx _ _ _ hi3 (fr_putObj hl3 (.inr rfl)), hl4, hk4⟩⟩
        | panic ch => exact hp.elim
        | outgrown => exact hp.elim

      | ret => exact hp0.elim
      | exit id => exact hp0.elim
      | goto t => exact hp0.elim
      | panic ch => exact hp0.elim
      | outgrown => exact hp0.elim
    · rintro e W2 ⟨⟨v, rfl⟩, (⟨hi, hl, hk⟩ | ⟨c, hi, hl, hk⟩)⟩
      · exact ⟨none, _, by have := run_endLoop (P := Try.prog) hl (by rw [hrec]; simp); rw [hrec] at this; exact this, hdone _ (hI _ _ _ hi (fr_putObj hl (.inr rfl))) ((World.putObj_heap_other (by omega)).trans hk)⟩
      · exact ⟨some c, _, by have := run_endLoop (P := Try.prog) hl (by rw [hrec]; simp); rw [hrec] at this; exact this, hstop c _ (hIx _ _ _ hi (fr_putObj hl (.inr rfl))) ((World.putObj_heap_other (by omega)).trans hk)⟩

end Go.Proofs.Ytioflglfnalcaaa.S

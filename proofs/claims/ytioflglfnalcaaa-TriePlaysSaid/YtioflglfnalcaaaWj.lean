/- Trie[int]'s Below and All. -/
import Derived.Laws.EntriesVeiled
import Derived.Test.YtioflglfnalcaaaWi
namespace Go.Proofs.Ytioflglfnalcaaa
open Go.RowKit

/-- The rows below zs, with their things. -/
def belowRes (T : AT) (D : Nat) (zs : List Int) : List (List Int × Value) := match T.N zs with
  | none => []
  | some _ => dfs T (D - zs.length) zs

def BelowPost (tr ti ei : TypeId) (fid : FuncId) (w : World) (res : List (List Int × Value)) (e : Ending) (w' : World) : Prop :=
  ∃ br bt rv tv rvals, e = .returned (.func (.func fid) #[] #[ptr br, ptr bt]) ∧ Coll tr ti ei w.heap.size w' br bt rv tv rvals (res.map (·.2)) (res.map (·.1)) ∧ Below w.heap.size w w'

structure R7 (w0 : World) (c : Nat) (keyv clo : Value) (zs : List Int) (L : Nat → Bool) (w : World) (x15 x16 x17 x18 : Value) : Prop where
  hb : Below w0.heap.size w0 w
  e0 : L 0 = true → x15 = clo
  e1 : L 1 = true → x16 = ptr c
  e2 : L 2 = true → x17 = keyv
  e3 : L 3 = true → ∃ A cap, x18 = .slice A zs.length cap ∧ RdT w A zs ∧ (A = none → cap = 0) ∧ zs.length ≤ cap

theorem R7.new {w0 : World} {c : Nat} {keyv clo : Value} {zs : List Int} {L : Nat → Bool} {w w1 : World} {x15 x16 x17 x18 : Value} (h : R7 w0 c keyv clo zs L w x15 x16 x17 x18) (k : Below w.heap.size w w1) : R7 w0 c keyv clo zs L w1 x15 x16 x17 x18 :=
  { h with
    hb := h.hb.trans (k.mono h.hb.size)
    e3 := fun e => by
      obtain ⟨A, cap, h1, h2, h3⟩ := h.e3 e
      exact ⟨A, cap, h1, h2.new k, h3⟩ }

def fr7 (pre : List Value) (x15 x16 x17 x18 x19 u20 : Value) : Act := { tmps := (pre ++ [x15, x16, x17, x18, x19, u20]).toArray, defers := [] }
def J7 (w0 : World) (c : Nat) (keyv clo : Value) (zs : List Int) (Post : World → Prop) (pre : List Value) (u20 : Value) (L : Nat → Bool) (a : Act) (w : World) : Prop :=
  ∃ x15 x16 x17 x18 x19, a = fr7 pre x15 x16 x17 x18 x19 u20 ∧ (L 4 = false → R7 w0 c keyv clo zs L w x15 x16 x17 x18) ∧ (L 4 = true → Post w ∧ ∀ i, i < 4 → L i = true)

theorem Coll.nil {w w' : World} {br bt : Nat} {tr ti ei : TypeId} (h1 : w.heap.size ≤ br) (h2 : w.heap.size ≤ bt) (h3 : Boxed w' br tr (.slice none 0 0)) (h4 : Boxed w' bt ti (.slice none 0 0)) :
    Coll tr ti ei w.heap.size w' br bt (.slice none 0 0) (.slice none 0 0) [] [] [] :=
  ⟨h1, h2, h3, ⟨rfl, .inl ⟨rfl, rfl⟩⟩, ⟨rfl, fun i hi => absurd hi (Nat.not_lt_zero i)⟩, h4, ⟨rfl, .inl ⟨rfl, rfl⟩⟩⟩

theorem heap_alloc_old2 {w : World} {o o' : Obj} {k : Nat} (h : w.heap[k]? = some o) : (w.alloc o').heap[k]? = some o := (heap_alloc_lt (lt_of_heap h)).trans h
theorem cell_lt {w : World} {b o : Nat} {v : Value} (h : w.cell? ⟨b, o, none⟩ = some v) : b < w.heap.size := by
  rcases Nat.lt_or_ge b w.heap.size with h1 | h1
  · exact h1
  · simp [World.cell?, Array.getElem?_eq_none h1] at h

set_option maxHeartbeats 1000000 in
set_option maxRecDepth 100000 in
theorem below_i {N D : Nat} (hS : SortOk N) (hN : N ≤ 35184372088832) (hD : D ≤ 35184372088000) (w : World) (t : Nat) (T : AT) (A : Option Addr) (cap : Nat) (zs : List Int) (R : Rep Li w t T) (hA : RdI w A zs) (hn : A = none → cap = 0)
    (hlen : zs.length ≤ 35184372088000) (hst : T.Small 35184372088000 N) (hint : ∀ p v, T.f p = some v → ∃ x, v = .int .i64 x) (hdeep : ∀ p, (T.N p).isSome → p.length < D) (hres : (belowRes T D zs).length ≤ 5864062014805) :
    Calls Try.prog 13 #[ptr t, .slice A zs.length cap] w (BelowPost 43 64 3 48 w (belowRes T D zs)) := by
  have HR := Lib.hid R
  have HA := Lib.hid hA
  clear hA R
  obtain ⟨w1, hw1⟩ : ∃ w1, w1 = ((w.alloc (.cells #[.slice none 0 0] 43)).alloc (.cells #[.slice none 0 0] 64)).alloc (.cells #[.func (.func 43) #[] #[.pointer (some ⟨w.heap.size, 0, none⟩), .pointer (some ⟨w.heap.size + 1, 0, none⟩), .pointer (some ⟨w.heap.size + 1 + 1, 0, none⟩)]] 84) := ⟨_, rfl⟩
  have hb1 : Below w.heap.size w w1 := by
    rw [hw1]
    exact (((Below.refl _ w).alloc (Nat.le_refl _) _).alloc (by simp) _).alloc (by simp; omega) _
  have hx0 : Boxed w1 w.heap.size 43 (.slice none 0 0) := by
    have := heap_alloc_eq w (.cells #[.slice none 0 0] 43)
    rw [hw1]
    exact heap_alloc_old2 (heap_alloc_old2 this)
  have hx1 : Boxed w1 (w.heap.size + 1) 64 (.slice none 0 0) := by
    have := heap_alloc_eq (w.alloc (.cells #[.slice none 0 0] 43)) (.cells #[.slice none 0 0] 64)
    rw [hw1]
    exact heap_alloc_old2 (by simpa using this)
  have hx2 : Boxed w1 (w.heap.size + 1 + 1) 84 (.func (.func 43) #[] #[.pointer (some ⟨w.heap.size, 0, none⟩), .pointer (some ⟨w.heap.size + 1, 0, none⟩), .pointer (some ⟨w.heap.size + 1 + 1, 0, none⟩)]) := by
    have := heap_alloc_eq ((w.alloc (.cells #[.slice none 0 0] 43)).alloc (.cells #[.slice none 0 0] 64)) (.cells #[.func (.func 43) #[] #[.pointer (some ⟨w.heap.size, 0, none⟩), .pointer (some ⟨w.heap.size + 1, 0, none⟩), .pointer (some ⟨w.heap.size + 1 + 1, 0, none⟩)]] 84)
    rw [hw1]
    simpa [Boxed] using this
  have hC0 := Lib.hid (Coll.nil (ei := 3) (Nat.le_refl _) (Nat.le_succ _) hx0 hx1)
  have HR1 : Hid (Rep Li w1 t T) := HR.out.frame (Fr.of_below hb1 Nob) fun _ _ h => h
  have HA1 : Hid (RdI w1 A zs) := by
    intro k hk
    obtain ⟨b, off, e, hc⟩ := HA.out k hk
    refine ⟨b, off, e, ?_⟩
    rw [← hc]
    refine hb1.cell (p := ⟨b, off + k, none⟩) ?_
    exact cell_lt hc
  have hf := find_i w1 t T A cap zs HR1.out (by omega) HA1.out
  have hw1' := Lib.hid hw1
  rw [hw1] at hf
  clear hw1
  replace hf := Lib.hid hf
  go_enter Try.func13, Try.ntmps13
  go_wp2_with fail
  refine hf.out.mono ?_
  rintro e w2 ⟨rfl, rfl⟩
  rw [← hw1'.out]
  clear hf hw1'
  cases hNz : T.N zs with
  | none =>
    have hB : Hid (belowRes T D zs = []) := Lib.hid (by simp only [belowRes, hNz])
    have HP : Hid (BelowPost 43 64 3 48 w [] (.returned (.func (.func 48) #[] #[.pointer (some ⟨w.heap.size, 0, none⟩), .pointer (some ⟨w.heap.size + 1, 0, none⟩)])) w1) := ⟨_, _, _, _, _, rfl, hC0.out, hb1⟩
    clear hNz
    rw [show optPtr none = .pointer none from rfl]
    go_wp2
    go_ret
    rw [hB.out]
    exact HP.out
  | some c =>
    have hB : Hid (belowRes T D zs = dfs T (D - zs.length) zs) := Lib.hid (by simp only [belowRes, hNz])
    rw [hB.out] at hres
    have hdl : zs.length < D := hdeep zs (by rw [hNz]; rfl)
    have hwalk := Lib.hid (walk_i hS hN hD t T w.heap.size w.heap.size (w.heap.size + 1) (w.heap.size + 1 + 1) hst (fun k hk => HR.out.lt hk) hint hdeep (D - zs.length) zs (by omega))
    replace hNz := Lib.hid hNz
    rw [show optPtr (some c) = ptr c from rfl]
    go_wp2
    refine wp_region_closed (by kernel_rfl) (by kernel_rfl) (J7 w1 c (.slice A zs.length cap) (.func (.func 43) #[] #[.pointer (some ⟨w.heap.size, 0, none⟩), .pointer (some ⟨w.heap.size + 1, 0, none⟩), .pointer (some ⟨w.heap.size + 1 + 1, 0, none⟩)]) zs
      (fun W => WPost w.heap.size w1 w.heap.size (w.heap.size + 1) [] [] (dfs T (D - zs.length) zs) (.returned (.tuple #[])) W)
      [ptr t, .slice A zs.length cap, undef, undef, .nilFunc, .pointer (some ⟨w.heap.size, 0, none⟩), .pointer (some ⟨w.heap.size + 1, 0, none⟩), .pointer (some ⟨w.heap.size + 1 + 1, 0, none⟩), ptr c,
        .func (.func 43) #[] #[.pointer (some ⟨w.heap.size, 0, none⟩), .pointer (some ⟨w.heap.size + 1, 0, none⟩), .pointer (some ⟨w.heap.size + 1 + 1, 0, none⟩)], ptr t, .slice A zs.length cap, ptr c, ptr c, .bool true] undef) ?_ ?_ ?_
    · refine ⟨undef, undef, undef, undef, undef, rfl, fun _ => ?_, (nomatch ·)⟩
      exact { hb := (Below.refl _ _).drew, e0 := (nomatch ·), e1 := (nomatch ·), e2 := (nomatch ·), e3 := (nomatch ·) }
    · intro i o L a w2 ho hL hpre hcl hJ
      have hi : i < 5 := by
        rcases Nat.lt_or_ge i 5 with h | h
        · exact h
        · rw [Array.getElem?_eq_none (by simpa using h)] at ho; cases ho
      obtain ⟨x15, x16, x17, x18, x19, rfl, hJ1, hJ2⟩ := hJ
      have h4 : L 4 = false := by
        cases h : L 4 with
        | false => rfl
        | true =>
          rcases (by omega : i < 4 ∨ i = 4) with h1 | h1
          · have := (hJ2 h).2 i h1; rw [hL] at this; cases this
          · subst h1; rw [hL] at h; cases h
      have hR := hJ1 h4
      have HR7 := Lib.hid hR
      have hBB := hR.hb
      have hx2' : w2.heap[w.heap.size + 1 + 1]? = some (.cells #[.func (.func 43) #[] #[.pointer (some ⟨w.heap.size, 0, none⟩), .pointer (some ⟨w.heap.size + 1, 0, none⟩), .pointer (some ⟨w.heap.size + 1 + 1, 0, none⟩)]] 84 (0, 0)) := boxed_new hx2 hBB
      have cbw : w2.cell? ⟨w.heap.size + 1 + 1, 0, none⟩ = some (.func (.func 43) #[] #[.pointer (some ⟨w.heap.size, 0, none⟩), .pointer (some ⟨w.heap.size + 1, 0, none⟩), .pointer (some ⟨w.heap.size + 1 + 1, 0, none⟩)]) := Boxed.cell hx2'
      replace hx2' := Lib.hid hx2'
      have hA2 : RdI w2 A zs := fun k hk => by
        obtain ⟨b, off, e, hc⟩ := HA1.out k hk
        exact ⟨b, off, e, (hBB.cell (p := ⟨b, off + k, none⟩) (cell_lt hc)).trans hc⟩
      have hclone := Lib.hid (clone_i w2 A cap zs hA2 (by omega) hn)
      have hC2 := hC0.out.new hBB
      have hRep2 : Rep Li w2 t T := HR1.out.frame (Fr.of_below hBB Nob) fun _ _ h => h
      clear hJ1 hJ2 hA2
      rcases (by omega : i = 0 ∨ i = 1 ∨ i = 2 ∨ i = 3 ∨ i = 4) with rfl | rfl | rfl | rfl | rfl
      · cases ho
        clear hR hpre hBB hC2 hRep2
        unfold fr7
        simp only [List.cons_append, List.nil_append]
        go_simp
        exact ⟨_, _, _, _, _, rfl, fun _ => { HR7.out with e0 := fun _ => rfl }, fun e => absurd (show L 4 = true from e) (by rw [h4]; decide)⟩
      · cases ho
        clear hR hpre hBB hC2 hRep2
        unfold fr7
        simp only [List.cons_append, List.nil_append]
        go_simp
        exact ⟨_, _, _, _, _, rfl, fun _ => { HR7.out with e1 := fun _ => rfl }, fun e => absurd (show L 4 = true from e) (by rw [h4]; decide)⟩
      · cases ho
        clear hR hpre hBB hC2 hRep2
        unfold fr7
        simp only [List.cons_append, List.nil_append]
        go_simp
        exact ⟨_, _, _, _, _, rfl, fun _ => { HR7.out with e2 := fun _ => rfl }, fun e => absurd (show L 4 = true from e) (by rw [h4]; decide)⟩
      · cases ho
        obtain rfl := hR.e2 (hpre ⟨2, .data⟩ (by simp) rfl)
        clear hR hpre hBB hC2 hRep2
        unfold fr7
        simp only [List.cons_append, List.nil_append]
        go_simp
        refine hclone.out.mono ?_
        rintro e w3 ⟨A2, cap2, rfl, g1, g2, g3, g4, g5⟩
        have hR2 := HR7.out.new g5
        exact ⟨_, _, _, _, _, rfl, fun _ => { hR2 with e3 := fun _ => ⟨_, _, rfl, g3, g2, g1⟩ }, fun e => absurd (show L 4 = true from e) (by rw [h4]; decide)⟩
      · cases ho
        have h0 : L 0 = true := hpre ⟨0, .data⟩ (by simp) rfl
        have h1 : L 1 = true := hpre ⟨1, .data⟩ (by simp) rfl
        have h3 : L 3 = true := hpre ⟨3, .data⟩ (by simp) rfl
        have h2 : L 2 = true := hcl 3 _ rfl h3 ⟨2, .data⟩ (by simp) rfl
        have hall : Hid (∀ i, i < 4 → L i = true) := by
          intro i hi
          rcases (by omega : i = 0 ∨ i = 1 ∨ i = 2 ∨ i = 3) with rfl | rfl | rfl | rfl <;> assumption
        obtain rfl := hR.e0 h0
        obtain rfl := hR.e1 h1
        obtain ⟨A2, cap2, rfl, g1, g2, g3⟩ := hR.e3 h3
        have hcall := Lib.hid (hwalk.out w2 c A2 cap2 _ _ _ _ _ hRep2 hNz.out g1 g2 g3 (by omega) hC2 hx2'.out (by simpa using hres) (by simpa using hres))
        clear hR hpre hcl hC2 hRep2 h0 h1 h2 h3
        unfold fr7
        simp only [List.cons_append, List.nil_append]
        go_simp
        refine hcall.out.mono ?_
        rintro e w3 ⟨rfl, hq1, hq2⟩
        refine ⟨_, _, _, _, _, rfl, (nomatch ·), fun _ => ⟨⟨rfl, hq1, (FB.of_below hBB).trans hq2⟩, fun i hi => ?_⟩⟩
        show (decide (i = 4) || L i) = true
        rw [hall.out i hi]; simp
    · rintro L a w2 hall ⟨x15, x16, x17, x18, x19, rfl, hJ1, hJ2⟩
      obtain ⟨-, ⟨rv, tv, rvals, hC⟩, hF⟩ := (hJ2 (hall 4 (by decide))).1
      have HP : Hid (BelowPost 43 64 3 48 w (dfs T (D - zs.length) zs) (.returned (.func (.func 48) #[] #[.pointer (some ⟨w.heap.size, 0, none⟩), .pointer (some ⟨w.heap.size + 1, 0, none⟩)])) w2) :=
        ⟨_, _, _, _, _, rfl, by simpa using hC, hb1.trans (hF.below hb1.size)⟩
      clear hJ1 hJ2 hC hF hall
      unfold fr7
      simp only [List.cons_append, List.nil_append]
      go_wp2
      go_ret
      rw [hB.out]
      exact HP.out

set_option maxHeartbeats 400000 in
set_option maxRecDepth 100000 in
theorem all_i {N D : Nat} (hS : SortOk N) (hN : N ≤ 35184372088832) (hD : D ≤ 35184372088000) (w : World) (t : Nat) (T : AT) (R : Rep Li w t T)
    (hst : T.Small 35184372088000 N) (hint : ∀ p v, T.f p = some v → ∃ x, v = .int .i64 x) (hdeep : ∀ p, (T.N p).isSome → p.length < D) (hres : (belowRes T D []).length ≤ 5864062014805) :
    Calls Try.prog 10 #[ptr t] w (BelowPost 43 64 3 48 w (belowRes T D [])) := by
  have hb := Lib.hid (below_i hS hN hD w t T none 0 [] R (fun k hk => absurd hk (Nat.not_lt_zero k)) (fun _ => rfl) (by simp) hst hint hdeep hres)
  go_enter Try.func10, Try.ntmps10
  go_wp2_with fail
  refine hb.out.mono ?_
  rintro e w2 ⟨br, bt, rv, tv, rvals, rfl, h2, h3⟩
  have HP : Hid (BelowPost 43 64 3 48 w (belowRes T D []) (.returned (.func (.func 48) #[] #[ptr br, ptr bt])) w2) := ⟨_, _, _, _, _, rfl, h2, h3⟩
  go_wp2
  go_ret
  exact HP.out
end Go.Proofs.Ytioflglfnalcaaa

/- The walk of Below's inner function at Trie[int]: the statement that appends to both lists. -/
import Derived.Deep.AppendLies
import Derived.Test.YtioflglfnalcaaaReg
import Derived.Test.YtioflglfnalcaaaColl
import Derived.Test.YtioflglfnalcaaaWg
namespace Go.Proofs.Ytioflglfnalcaaa
open Go.RowKit

theorem info36 : (Try.prog.info? 36).map (fun i => (i.zero, i.size, i.bytes)) = some (some (.slice none 0 0), 1, 24) := by kernel_rfl
theorem info3 : (Try.prog.info? 3).map (fun i => (i.zero, i.size, i.bytes)) = some (some (.int .i64 0), 1, 8) := by kernel_rfl

/-- The frame of that statement. -/
def fr1 (b br bt bw : Nat) (rowv x13 x14 x15 x16 x17 x18 x19 x20 x21 x22 x23 x24 : Value) : Act :=
  { tmps := #[ptr b, rowv, ptr br, ptr bt, ptr bw, undef, undef, undef, undef, ptr b, .pointer (some ⟨b, 0, none⟩), .pointer (some ⟨b, 2, none⟩), .bool true, x13, x14, x15, x16, x17, x18, x19, x20, x21, x22, x23, x24,
      undef, undef, undef, undef, undef, undef, undef, undef, undef, undef, undef, undef, undef, undef, undef, undef, undef, undef, undef, undef, undef, undef, undef, undef, undef, undef, undef, undef, undef], defers := [] }
def J1 (B : Nat) (w0 : World) (br bt b bw : Nat) (rv tv : Value) (rvals vals : List Value) (n : Nat) (p : List Int) (v rowv : Value) (L : Nat → Bool) (a : Act) (w : World) : Prop :=
  ∃ x13 x14 x15 x16 x17 x18 x19 x20 x21 x22 x23 x24, a = fr1 b br bt bw rowv x13 x14 x15 x16 x17 x18 x19 x20 x21 x22 x23 x24 ∧
    R1 43 64 3 B w0 br bt b rv tv rvals vals n p v rowv L w x13 x14 x15 x16 x17 x18 x19 x20 x21 x22 x23 x24

def frW (b br bt bw : Nat) (rowv y12 x13 x14 x15 x16 x17 x18 x19 x20 x21 x22 x23 x24 : Value) : Act :=
  { tmps := #[ptr b, rowv, ptr br, ptr bt, ptr bw, undef, undef, undef, undef, ptr b, .pointer (some ⟨b, 0, none⟩), .pointer (some ⟨b, 2, none⟩), y12, x13, x14, x15, x16, x17, x18, x19, x20, x21, x22, x23, x24,
      undef, undef, undef, undef, undef, undef, undef, undef, undef, undef, undef, undef, undef, undef, undef, undef, undef, undef, undef, undef, undef, undef, undef, undef, undef, undef, undef, undef, undef], defers := [] }

noncomputable def head43 : Code := match Try.f43.body with
  | some (.seq c _) => c
  | _ => .skip

def frH (b br bt bw : Nat) (rowv : Value) : Act :=
  { tmps := #[ptr b, rowv, ptr br, ptr bt, ptr bw, undef, undef, undef, undef, undef, undef, undef, undef, undef, undef, undef, undef, undef, undef, undef, undef, undef, undef, undef, undef,
      undef, undef, undef, undef, undef, undef, undef, undef, undef, undef, undef, undef, undef, undef, undef, undef, undef, undef, undef, undef, undef, undef, undef, undef, undef, undef, undef, undef, undef], defers := [] }

set_option maxHeartbeats 1000000 in
set_option maxRecDepth 100000 in
theorem head_none (w : World) (t : Nat) (T : AT) (p : List Int) (b br bt bw : Nat) (rowv : Value) (K : Act → World → Prop) (Q : Exit → Act → World → Prop)
    (R : Rep Li w t T) (hp : T.N p = some b) (hf : T.f p = none) (hK : ∀ y12 x13 x14 x15 x16 x17 x18 x19 x20 x21 x22 x23 x24, K (frW b br bt bw rowv y12 x13 x14 x15 x16 x17 x18 x19 x20 x21 x22 x23 x24) w) :
    head43.wp Try.prog (Exit.then K Q) (frH b br bt bw rowv) w := by
  obtain ⟨h0, h1, h2⟩ := node_cells R hp
  rw [hf] at h1 h2
  simp only [Option.isSome_none] at h2
  have hK' := Lib.hid hK
  clear hf hp hK R
  unfold head43 frH
  dsimp only [Try.f43]
  go_wp2
  exact hK'.out _ _ _ _ _ _ _ _ _ _ _ _ _

set_option maxHeartbeats 1000000 in
set_option maxRecDepth 100000 in
theorem head_some (B : Nat) (w : World) (t : Nat) (T : AT) (p : List Int) (b br bt bw : Nat) (A : Option Addr) (cap : Nat) (x : Int) (rv tv : Value) (rvals vals : List Value) (rows : List (List Int)) (K : Act → World → Prop) (Q : Exit → Act → World → Prop)
    (R : Rep Li w t T) (hp : T.N p = some b) (hbB : b < B) (hf : T.f p = some (.int .i64 x)) (hA : RdT w A p) (hn : A = none → cap = 0) (hl : p.length ≤ 35184372088832) (hC : Coll 43 64 3 B w br bt rv tv rvals vals rows)
    (hr : rows.length < 5864062014805) (hvl : vals.length < 5864062014805)
    (hK : ∀ w1 rv1 tv1 rvals1 y12 x13 x14 x15 x16 x17 x18 x19 x20 x21 x22 x23 x24, Coll 43 64 3 B w1 br bt rv1 tv1 rvals1 (vals ++ [.int .i64 x]) (rows ++ [p]) → FB [43, 64, 36, 3] B w w1 →
      K (frW b br bt bw (.slice A p.length cap) y12 x13 x14 x15 x16 x17 x18 x19 x20 x21 x22 x23 x24) w1) :
    head43.wp Try.prog (Exit.then K Q) (frH b br bt bw (.slice A p.length cap)) w := by
  obtain ⟨h0, h1, h2⟩ := node_cells R hp
  rw [hf] at h1 h2
  simp only [Option.getD_some, Option.isSome_some] at h1 h2
  obtain ⟨i0, hi0, hz0, hz1, hz2⟩ := info_parts info36
  obtain ⟨i3, hi3, hy0, hy1, hy2⟩ := info_parts info3
  have hf' := Lib.hid hf
  have HA := Lib.hid hA
  have hp' := Lib.hid hp
  have hK' := Lib.hid hK
  clear hf hp hA hK
  unfold head43 frH
  dsimp only [Try.f43]
  go_wp2
  refine wp_region_facts (by kernel_rfl) (by kernel_rfl) (J1 B w br bt b bw rv tv rvals vals rows.length p (.int .i64 x) (.slice A p.length cap)) ?_ ?_ ?_
  · refine ⟨undef, undef, undef, undef, undef, undef, undef, undef, undef, undef, undef, undef, rfl, ?_⟩
    exact { fb := FB.refl.drew, bx := fun _ => hC.box, bx' := (nomatch ·), tx := fun _ => hC.tbox, tx' := (nomatch ·), ow := fun _ => hC.own, tw := fun _ => hC.town, d4 := (nomatch ·), d11 := (nomatch ·), d12 := (nomatch ·), d13 := (nomatch ·), f0 := (nomatch ·), f1 := (nomatch ·), f2 := (nomatch ·), f3 := (nomatch ·), f4 := (nomatch ·), f5 := (nomatch ·), f6 := (nomatch ·), f7 := (nomatch ·), f8 := (nomatch ·), f9 := (nomatch ·), f10 := (nomatch ·), f11 := (nomatch ·) }
  · intro i o L a w1 ho hL hpre hJ
    have hi : i < 14 := by
      rcases Nat.lt_or_ge i 14 with h | h
      · exact h
      · rw [Array.getElem?_eq_none (by simpa using h)] at ho; cases ho
    obtain ⟨x13, x14, x15, x16, x17, x18, x19, x20, x21, x22, x23, x24, rfl, hR⟩ := hJ
    have hB := hR.fb.below (a := w) (by have := hC.box.lt; have := hC.hb; omega)
    have hnode : w1.cell? ⟨b, 1, none⟩ = some (.int .i64 x) := (hB.cell (p := ⟨b, 1, none⟩) hbB).trans h1
    have HA1 : RdT w1 A p := hR.fb.rdT HA.out (by simp)
    have HR := Lib.hid hR
    rcases (by omega : i = 0 ∨ i = 1 ∨ i = 2 ∨ i = 3 ∨ i = 4 ∨ i = 5 ∨ i = 6 ∨ i = 7 ∨ i = 8 ∨ i = 9 ∨ i = 10 ∨ i = 11 ∨ i = 12 ∨ i = 13) with rfl | rfl | rfl | rfl | rfl | rfl | rfl | rfl | rfl | rfl | rfl | rfl | rfl | rfl
    · cases ho
      have h12 : L 12 = false := by
        cases h : L 12 with
        | false => rfl
        | true => have := (hR.d12 h).2; rw [hL] at this; cases this
      have c1 := (hR.bx h12).cell
      clear hR hpre hB
      unfold fr1
      go_simp
      exact ⟨_, _, _, _, _, _, _, _, _, _, _, _, rfl, { HR.out with d12 := fun e => ⟨(HR.out.d12 e).1, rfl⟩, f0 := fun _ => rfl }⟩
    · cases ho
      clear hR hpre hB
      unfold fr1
      go_simp
      exact ⟨_, _, _, _, _, _, _, _, _, _, _, _, rfl, { HR.out with f1 := fun _ => rfl }⟩
    · cases ho
      simp [Region.binds] at hpre
      obtain rfl := hR.f1 hpre
      clear hR hB
      unfold fr1
      go_simp
      refine (clone_i w1 A cap p HA1.rd hl hn).mono ?_
      rintro e w2 ⟨A2, cap2, rfl, g1, g2, g3, g4, g5⟩
      have hR2 := HR.out.new g5
      exact ⟨_, _, _, _, _, _, _, _, _, _, _, _, rfl, { hR2 with f2 := fun _ => ⟨A2, cap2, rfl, g3, g2⟩ }⟩
    · cases ho
      simp [Region.binds] at hpre
      obtain ⟨A2, cap2, rfl, g1, g2⟩ := hR.f2 hpre
      have hpre0 : L 0 = true ∨ L 0 = false := by cases L 0 <;> simp
      have g3 := heap_alloc_eq w1 (.cells #[.slice A2 p.length cap2] 36)
      have hb2 : Below w1.heap.size w1 (w1.alloc (.cells #[.slice A2 p.length cap2] 36)) := (Below.refl _ _).alloc (Nat.le_refl _) _
      have hR2 := HR.out.new hb2
      have g1' := Lib.hid (RdT.new g1 hb2)
      have hne : Hid (rv.ownBlock ≠ some w1.heap.size) := fun e => by
        cases h4 : L 4 with
        | false => have := (own_lt (hR.ow h4) e).1; omega
        | true => have := hR.d4 h4; rw [hL] at this; cases this
      clear hR hB g1
      unfold fr1
      go_simp
      exact ⟨_, _, _, _, _, _, _, _, _, _, _, _, rfl, { hR2 with d4 := fun _ => rfl, f3 := fun _ => ⟨A2, cap2, _, rfl, g3, hne, g1'.out, g2⟩ }⟩
    · cases ho
      simp [Region.binds] at hpre
      obtain ⟨hq0, hq3, -⟩ := hpre
      obtain ⟨A2, cap2, bk, rfl, g1, g2, g3, g4⟩ := hR.f3 hq3
      obtain rfl := hR.f0 hq0
      have hown := hR.ow hL
      obtain ⟨v', w2, hrun, ho2, hg2, _⟩ := run_append_own (P := Try.prog) w1 B 43 43 36 i0 (.slice none 0 0) 1 24 Try.underlying43 hi0 hz0 hz1 hz2 rfl (by decide) _ _ _ hown ⟨bk, 0, none⟩ 1 1 [.slice A2 p.length cap2] rfl
        (World.news_of_block (cs := #[.slice A2 p.length cap2]) g1) (by simp [Value.oneCell']) (by unfold maxLen; omega) (by omega) (by have := hC.box.lt; have := hC.hb; have := hB.size; omega)
      have hR2 := HR.out.app1 hL hq3 rfl g3 g4 ho2 hg2 (by decide) (by decide) (by decide) (by decide)
      rw [if_pos (by rfl)]
      refine wp_append_run (.tmp 13) (.tmp 16) 43 rfl rfl rfl hrun ?_
      exact ⟨_, _, _, _, _, _, _, _, _, _, _, _, rfl, hR2⟩
    · cases ho
      have h13 : L 13 = false := by
        cases h : L 13 with
        | false => rfl
        | true => have := (hR.d13 h).2; rw [hL] at this; cases this
      have c1 := (hR.tx h13).cell
      clear hR hpre hB
      unfold fr1
      go_simp
      exact ⟨_, _, _, _, _, _, _, _, _, _, _, _, rfl, { HR.out with d13 := fun e => ⟨(HR.out.d13 e).1, rfl⟩, f5 := fun _ => rfl }⟩
    · cases ho
      clear hR hpre hB
      unfold fr1
      go_simp
      exact ⟨_, _, _, _, _, _, _, _, _, _, _, _, rfl, { HR.out with f6 := fun _ => rfl }⟩
    · cases ho
      simp [Region.binds] at hpre
      obtain rfl := hR.f6 hpre
      clear hR hpre hB
      unfold fr1
      go_simp
      exact ⟨_, _, _, _, _, _, _, _, _, _, _, _, rfl, { HR.out with f7 := fun _ => rfl }⟩
    · cases ho
      simp [Region.binds] at hpre
      obtain rfl := hR.f7 hpre
      clear hR hpre hB
      unfold fr1
      go_simp
      exact ⟨_, _, _, _, _, _, _, _, _, _, _, _, rfl, { HR.out with f8 := fun _ => rfl }⟩
    · cases ho
      simp [Region.binds] at hpre
      obtain rfl := hR.f8 hpre
      clear hR hpre hB
      unfold fr1
      go_simp
      exact ⟨_, _, _, _, _, _, _, _, _, _, _, _, rfl, { HR.out with f9 := fun _ => rfl }⟩
    · cases ho
      simp [Region.binds] at hpre
      obtain rfl := hR.f9 hpre
      have g3 := heap_alloc_eq w1 (.cells #[.int .i64 x] 3)
      have hb2 : Below w1.heap.size w1 (w1.alloc (.cells #[.int .i64 x] 3)) := (Below.refl _ _).alloc (Nat.le_refl _) _
      have hR2 := HR.out.new hb2
      have hne : Hid (tv.ownBlock ≠ some w1.heap.size) := fun e => by
        cases h4 : L 11 with
        | false => have := (own_lt (hR.tw h4) e).1; omega
        | true => have := hR.d11 h4; rw [hL] at this; cases this
      clear hR hB
      unfold fr1
      go_simp
      exact ⟨_, _, _, _, _, _, _, _, _, _, _, _, rfl, { hR2 with d11 := fun _ => rfl, f10 := fun _ => ⟨_, rfl, g3, hne⟩ }⟩
    · cases ho
      simp [Region.binds] at hpre
      obtain ⟨hq0, hq3, -⟩ := hpre
      obtain ⟨bk, rfl, g1, g2⟩ := hR.f10 hq3
      obtain rfl := hR.f5 hq0
      have hown := hR.tw hL
      obtain ⟨v', w2, hrun, ho2, hg2, _⟩ := run_append_own (P := Try.prog) w1 B 64 64 3 i3 (.int .i64 0) 1 8 Try.underlying64 hi3 hy0 hy1 hy2 rfl (by decide) _ _ _ hown ⟨bk, 0, none⟩ 1 1 [.int .i64 x] rfl
        (World.news_of_block (cs := #[.int .i64 x]) g1) (by simp [Value.oneCell']) (by unfold maxLen; omega) (by omega) (by have := hC.box.lt; have := hC.hb; have := hB.size; omega)
      have hR2 := HR.out.app2 hL hq3 ho2 hg2 (by decide) (by decide) (by decide) (by decide)
      rw [if_pos (by rfl)]
      refine wp_append_run (.tmp 18) (.tmp 23) 64 rfl rfl rfl hrun ?_
      exact ⟨_, _, _, _, _, _, _, _, _, _, _, _, rfl, hR2⟩
    · cases ho
      have h4 : L 4 = true := hpre ⟨4, .data⟩ (by simp) rfl
      have h0 : L 0 = true := hpre ⟨0, .phase⟩ (by simp) rfl
      have hR2 := HR.out.st1 hL ⟨h4, h0⟩ hC.hb (by decide) (by decide) (by decide) (by decide)
      have c1 := (hR.bx hL).cell
      have c2 := (hR.bx hL).frozen
      obtain ⟨A2, cap2, ho4, _, _⟩ := hR.f4 h4
      obtain ⟨g, cap3, rfl⟩ := ownsRow_succ ho4
      clear hR hpre hB ho4
      unfold fr1
      go_simp
      exact ⟨_, _, _, _, _, _, _, _, _, _, _, _, rfl, hR2⟩
    · cases ho
      have h4 : L 11 = true := hpre ⟨11, .data⟩ (by simp) rfl
      have h0 : L 5 = true := hpre ⟨5, .phase⟩ (by simp) rfl
      have hR2 := HR.out.st2 hL ⟨h4, h0⟩ hC.hb2 (by decide) (by decide) (by decide) (by decide)
      have c1 := (hR.tx hL).cell
      have c2 := (hR.tx hL).frozen
      have ho4 := hR.f11 h4
      obtain ⟨g, cap3, rfl⟩ := ownsRow_succ ho4
      clear hR hpre hB ho4
      unfold fr1
      go_simp
      exact ⟨_, _, _, _, _, _, _, _, _, _, _, _, rfl, hR2⟩
  · rintro L a w1 hall ⟨x13, x14, x15, x16, x17, x18, x19, x20, x21, x22, x23, x24, rfl, hR⟩
    have hLL : ∀ i, i < 14 → L i = true := fun i hi => hall i (by simpa using hi)
    have hb1 := hR.bx' (hLL 12 (by omega))
    have hb2 := hR.tx' (hLL 13 (by omega))
    obtain ⟨A2, cap2, ho1, hz1, hz2⟩ := hR.f4 (hLL 4 (by omega))
    have ho2 := hR.f11 (hLL 11 (by omega))
    have hfb := hR.fb
    have hC1 : Coll 43 64 3 B w1 br bt x17 x24 (rvals ++ [.slice A2 p.length cap2]) (vals ++ [.int .i64 x]) (rows ++ [p]) :=
      ⟨hC.hb, hC.hb2, hb1, by simpa using ho1, (hC.are.frame hfb (by simp)).snoc hz1 hz2, hb2, by simpa using ho2⟩
    unfold fr1
    exact hK'.out _ _ _ _ _ _ _ _ _ _ _ _ _ _ _ _ _ hC1 hfb
end Go.Proofs.Ytioflglfnalcaaa

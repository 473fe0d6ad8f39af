/- glossarylaw04.TriePlays returns true, whatever the calls, and its input reads as it did. No condition. (Part M4.) -/
import Derived.Test.YtioflglfnalcaaaM3
import Derived.LoopNIn
/- TriePlays: what walked does ahead of its turns: printed by gen_po.py. -/
namespace Go.Proofs.Ytioflglfnalcaaa
open Go.RowKit

attribute [local go_sem] Oper.semAt_some

def fa41 (sp sv : Value) (h0 wb : Nat) (y6 y7 y8 y9 y10 y11 y12 y13 y14 y15 y16 y17 y18 y19 y20 y21 y22 y23 y24 y25 y26 y27 y28 y29 y30 y31 y32 y33 y34 y35 y36 y37 y38 y39 y40 y41 y42 y43 y44 y45 y46 y47 y48 y49 y50 y51 y52 y53 y54 y55 y56 y57 y58 y59 y60 y61 y62 y63 y64 y65 y66 y67 y68 y69 y70 y71 y72 y73 y74 y75 y76 y77 y78 y79 y80 y81 y82 y83 y84 y85 y86 y87 y88 y89 y90 y91 y92 y93 y94 y95 y96 y97 y98 y99 y100 y101 y102 y103 y104 y105 y106 y107 y108 y109 y110 y111 y112 y113 y114 y115 y116 y117 y118 y119 y120 y121 y122 y123 y124 y125 y126 y127 y128 : Value) : Act :=
  { tmps := #[sp, sv, .pointer (some ⟨h0, 0, none⟩), .pointer (some ⟨h0 + 1, 0, none⟩), .pointer (some ⟨h0 + 2, 0, none⟩), .pointer (some ⟨wb, 0, none⟩), y6, y7, y8, y9, y10, y11, y12, y13, y14, y15, y16, y17, y18, y19, y20, y21, y22, y23, y24, y25, y26, y27, y28, y29, y30, y31, y32, y33, y34, y35, y36, y37, y38, y39, y40, y41, y42, y43, y44, y45, y46, y47, y48, y49, y50, y51, y52, y53, y54, y55, y56, y57, y58, y59, y60, y61, y62, y63, y64, y65, y66, y67, y68, y69, y70, y71, y72, y73, y74, y75, y76, y77, y78, y79, y80, y81, y82, y83, y84, y85, y86, y87, y88, y89, y90, y91, y92, y93, y94, y95, y96, y97, y98, y99, y100, y101, y102, y103, y104, y105, y106, y107, y108, y109, y110, y111, y112, y113, y114, y115, y116, y117, y118, y119, y120, y121, y122, y123, y124, y125, y126, y127, y128], defers := [] }

noncomputable def g4 : Code := sqF (cdT (sqS (sqF (sqS (sqS (sqS (bodyOf Try.f41)))))))
noncomputable def g5 : Code := sqS (cdT (sqS (sqF (sqS (sqS (sqS (bodyOf Try.f41)))))))
structure Rg4 (pb off h0 ck : Nat) (Ak : Option Addr) (key : List Int) (tv : Value) (L : Nat → Bool) (x26 x27 x28 x29 x30 x31 : Value) : Prop where
  e0 : L 0 = true → x26 = .pointer (some ⟨pb, off, none⟩)
  e1 : L 1 = true → x27 = .pointer (some ⟨pb, off, none⟩)
  e2 : L 2 = true → x28 = .pointer (some ⟨pb, off + 1, none⟩)
  e3 : L 3 = true → x29 = tv
  e4 : L 4 = true → x30 = .pointer (some ⟨h0 + 1, 2, none⟩)
  e5 : L 5 = true → x31 = .slice Ak key.length ck
def Jg4 (sp sv : Value) (h0 wb : Nat) (y6 y7 y8 y9 y10 y11 y12 y13 y14 y15 y16 y17 y18 y19 y20 y21 y22 y23 y24 y25 y33 y34 y35 y36 y37 y38 y39 y40 y41 y42 y43 y44 y45 y46 y47 y48 y49 y50 y51 y52 y53 y54 y55 y56 y57 y58 y59 y60 y61 y62 y63 y64 y65 y66 y67 y68 y69 y70 y71 y72 y73 y74 y75 y76 y77 y78 y79 y80 y81 y82 y83 y84 y85 y86 y87 y88 y89 y90 y91 y92 y93 y94 y95 y96 y97 y98 y99 y100 y101 y102 y103 y104 y105 y106 y107 y108 y109 y110 y111 y112 y113 y114 y115 y116 y117 y118 y119 y120 y121 y122 y123 y124 y125 y126 y127 y128 : Value) (pb off ck : Nat) (Ak : Option Addr) (key : List Int) (tv : Value) (W : World) (Post : Value → World → Prop) (L : Nat → Bool) (a : Act) (w : World) : Prop :=
  ∃ x26 x27 x28 x29 x30 x31 x32, a = (fa41 sp sv h0 wb y6 y7 y8 y9 y10 y11 y12 y13 y14 y15 y16 y17 y18 y19 y20 y21 y22 y23 y24 y25 x26 x27 x28 x29 x30 x31 x32 y33 y34 y35 y36 y37 y38 y39 y40 y41 y42 y43 y44 y45 y46 y47 y48 y49 y50 y51 y52 y53 y54 y55 y56 y57 y58 y59 y60 y61 y62 y63 y64 y65 y66 y67 y68 y69 y70 y71 y72 y73 y74 y75 y76 y77 y78 y79 y80 y81 y82 y83 y84 y85 y86 y87 y88 y89 y90 y91 y92 y93 y94 y95 y96 y97 y98 y99 y100 y101 y102 y103 y104 y105 y106 y107 y108 y109 y110 y111 y112 y113 y114 y115 y116 y117 y118 y119 y120 y121 y122 y123 y124 y125 y126 y127 y128) ∧ (L 6 = false → w = W.drew ∧ Rg4 pb off h0 ck Ak key tv L x26 x27 x28 x29 x30 x31) ∧ (L 6 = true → L 7 = false → Post x32 w) ∧ (L 7 = true → ∃ u w0, Post u w0 ∧ w = w0.setCell ⟨wb, 0, none⟩ u)

set_option maxHeartbeats 2000000 in
set_option maxRecDepth 100000 in
theorem g4_i (n : Nat) (Q : Exit → Act → World → Prop) (W : World) (sp sv : Value) (h0 wb pb off ck : Nat) (dov who val nv : Int) (Ak : Option Addr) (key : List Int) (tv : Value) (Post : Value → World → Prop)
    (hcp : W.cell? ⟨h0, 0, none⟩ = some (.pointer (some ⟨pb, off, none⟩))) (hbs : W.heap[h0 + 1]? = some (.cells #[.int .i64 dov, .int .i64 who, .slice Ak key.length ck, .int .i64 val, .int .i64 nv] 38 (0, 0))) (Av : Option Addr) (nl cv : Nat) (hct : W.cell? ⟨pb, off + 1, none⟩ = some (.slice Av nl cv))
    (hcall : Calls Try.prog 58 #[.agg #[.slice Av nl cv], .slice Ak key.length ck] W.drew (fun e w' => ∃ u, e = .returned u ∧ Post u w')) (hst : ∀ u w, Post u w → (∃ A n c, u = .slice A n c) ∧ (∃ x, w.cell? ⟨wb, 0, none⟩ = some x) ∧ w.frozen? ⟨wb, 0, none⟩ = false) (y6 y7 y8 y9 y10 y11 y12 y13 y14 y15 y16 y17 y18 y19 y20 y21 y22 y23 y24 y25 y26 y27 y28 y29 y30 y31 y32 y33 y34 y35 y36 y37 y38 y39 y40 y41 y42 y43 y44 y45 y46 y47 y48 y49 y50 y51 y52 y53 y54 y55 y56 y57 y58 y59 y60 y61 y62 y63 y64 y65 y66 y67 y68 y69 y70 y71 y72 y73 y74 y75 y76 y77 y78 y79 y80 y81 y82 y83 y84 y85 y86 y87 y88 y89 y90 y91 y92 y93 y94 y95 y96 y97 y98 y99 y100 y101 y102 y103 y104 y105 y106 y107 y108 y109 y110 y111 y112 y113 y114 y115 y116 y117 y118 y119 y120 y121 y122 y123 y124 y125 y126 y127 y128 : Value)
    (hQ : ∀ u w', Post u w' → ∀ x26 x27 x28 x29 x30 x31 x32, Q .normal (fa41 sp sv h0 wb y6 y7 y8 y9 y10 y11 y12 y13 y14 y15 y16 y17 y18 y19 y20 y21 y22 y23 y24 y25 x26 x27 x28 x29 x30 x31 x32 y33 y34 y35 y36 y37 y38 y39 y40 y41 y42 y43 y44 y45 y46 y47 y48 y49 y50 y51 y52 y53 y54 y55 y56 y57 y58 y59 y60 y61 y62 y63 y64 y65 y66 y67 y68 y69 y70 y71 y72 y73 y74 y75 y76 y77 y78 y79 y80 y81 y82 y83 y84 y85 y86 y87 y88 y89 y90 y91 y92 y93 y94 y95 y96 y97 y98 y99 y100 y101 y102 y103 y104 y105 y106 y107 y108 y109 y110 y111 y112 y113 y114 y115 y116 y117 y118 y119 y120 y121 y122 y123 y124 y125 y126 y127 y128) (w'.setCell ⟨wb, 0, none⟩ u)) : g4.wpIn Fence.wide n Try.prog Q (fa41 sp sv h0 wb y6 y7 y8 y9 y10 y11 y12 y13 y14 y15 y16 y17 y18 y19 y20 y21 y22 y23 y24 y25 y26 y27 y28 y29 y30 y31 y32 y33 y34 y35 y36 y37 y38 y39 y40 y41 y42 y43 y44 y45 y46 y47 y48 y49 y50 y51 y52 y53 y54 y55 y56 y57 y58 y59 y60 y61 y62 y63 y64 y65 y66 y67 y68 y69 y70 y71 y72 y73 y74 y75 y76 y77 y78 y79 y80 y81 y82 y83 y84 y85 y86 y87 y88 y89 y90 y91 y92 y93 y94 y95 y96 y97 y98 y99 y100 y101 y102 y103 y104 y105 y106 y107 y108 y109 y110 y111 y112 y113 y114 y115 y116 y117 y118 y119 y120 y121 y122 y123 y124 y125 y126 y127 y128) W := by
  have hcs2 : W.cell? ⟨h0 + 1, 2, none⟩ = some (.slice Ak key.length ck) := by simp [World.cell?, hbs]
  have Hcall := Lib.hid hcall
  have HQ := Lib.hid hQ
  have Hst := Lib.hid hst
  clear hbs hcall hQ hst
  unfold g4 fa41
  dsimp only [Try.f41, bodyOf, sqF, sqS, cdT, bkB, lpB, rfB]
  refine wpIn_region_closed (by kernel_rfl) (by kernel_rfl) (Jg4 sp sv h0 wb y6 y7 y8 y9 y10 y11 y12 y13 y14 y15 y16 y17 y18 y19 y20 y21 y22 y23 y24 y25 y33 y34 y35 y36 y37 y38 y39 y40 y41 y42 y43 y44 y45 y46 y47 y48 y49 y50 y51 y52 y53 y54 y55 y56 y57 y58 y59 y60 y61 y62 y63 y64 y65 y66 y67 y68 y69 y70 y71 y72 y73 y74 y75 y76 y77 y78 y79 y80 y81 y82 y83 y84 y85 y86 y87 y88 y89 y90 y91 y92 y93 y94 y95 y96 y97 y98 y99 y100 y101 y102 y103 y104 y105 y106 y107 y108 y109 y110 y111 y112 y113 y114 y115 y116 y117 y118 y119 y120 y121 y122 y123 y124 y125 y126 y127 y128 pb off ck Ak key (.agg #[.slice Av nl cv]) W Post) ?_ ?_ ?_
  · exact ⟨y26, y27, y28, y29, y30, y31, y32, rfl, fun _ => ⟨rfl, ⟨(nomatch ·), (nomatch ·), (nomatch ·), (nomatch ·), (nomatch ·), (nomatch ·)⟩⟩, (nomatch ·), (nomatch ·)⟩
  · intro i o L a w1 ho hL hpre hcl hJJ
    have hi : i < 8 := by
      rcases Nat.lt_or_ge i 8 with h | h
      · exact h
      · rw [Array.getElem?_eq_none (by simpa using h)] at ho; cases ho
    obtain ⟨x26, x27, x28, x29, x30, x31, x32, rfl, hJ1, hJ2, hJ3⟩ := hJJ
    have h7 : L 7 = false := by
      cases h : L 7 with
      | false => rfl
      | true =>
        have c6 := hcl 7 _ rfl h ⟨6, .data⟩ (by simp) rfl
        have c3 := hcl 6 _ rfl c6 ⟨3, .data⟩ (by simp) rfl
        have c5 := hcl 6 _ rfl c6 ⟨5, .data⟩ (by simp) rfl
        have c2 := hcl 3 _ rfl c3 ⟨2, .data⟩ (by simp) rfl
        have c1 := hcl 2 _ rfl c2 ⟨1, .data⟩ (by simp) rfl
        have c0 := hcl 1 _ rfl c1 ⟨0, .data⟩ (by simp) rfl
        have c4 := hcl 5 _ rfl c5 ⟨4, .data⟩ (by simp) rfl
        rcases (by omega : i = 0 ∨ i = 1 ∨ i = 2 ∨ i = 3 ∨ i = 4 ∨ i = 5 ∨ i = 6 ∨ i = 7) with rfl | rfl | rfl | rfl | rfl | rfl | rfl | rfl <;> simp_all
    have h6 : i ≠ 7 → L 6 = false := fun hi7 => by
      cases h : L 6 with
      | false => rfl
      | true =>
        have c3 := hcl 6 _ rfl h ⟨3, .data⟩ (by simp) rfl
        have c5 := hcl 6 _ rfl h ⟨5, .data⟩ (by simp) rfl
        have c2 := hcl 3 _ rfl c3 ⟨2, .data⟩ (by simp) rfl
        have c1 := hcl 2 _ rfl c2 ⟨1, .data⟩ (by simp) rfl
        have c0 := hcl 1 _ rfl c1 ⟨0, .data⟩ (by simp) rfl
        have c4 := hcl 5 _ rfl c5 ⟨4, .data⟩ (by simp) rfl
        rcases (by omega : i = 0 ∨ i = 1 ∨ i = 2 ∨ i = 3 ∨ i = 4 ∨ i = 5 ∨ i = 6) with rfl | rfl | rfl | rfl | rfl | rfl | rfl <;> simp_all
    rcases (by omega : i = 0 ∨ i = 1 ∨ i = 2 ∨ i = 3 ∨ i = 4 ∨ i = 5 ∨ i = 6 ∨ i = 7) with rfl | rfl | rfl | rfl | rfl | rfl | rfl | rfl
    · cases ho
      have h6 := h6 (by decide)
      obtain ⟨rfl, hR⟩ := hJ1 h6
      have HR := Lib.hid hR
      clear hR hpre hcl hJ1 hJ2 hJ3
      unfold StepIn fa41
      go_simp
      exact ⟨_, _, _, _, _, _, _, rfl, fun _ => ⟨rfl, { HR.out with e0 := fun _ => rfl }⟩, fun e => absurd (show L 6 = true from e) (by rw [h6]; decide), fun e => absurd (show L 7 = true from e) (by rw [h7]; decide)⟩
    · cases ho
      have h6 := h6 (by decide)
      obtain ⟨rfl, hR⟩ := hJ1 h6
      have HR := Lib.hid hR
      obtain rfl := hR.e0 (hpre ⟨0, .data⟩ (by simp) rfl)
      clear hR hpre hcl hJ1 hJ2 hJ3
      unfold StepIn fa41
      go_simp
      exact ⟨_, _, _, _, _, _, _, rfl, fun _ => ⟨rfl, { HR.out with e1 := fun _ => rfl }⟩, fun e => absurd (show L 6 = true from e) (by rw [h6]; decide), fun e => absurd (show L 7 = true from e) (by rw [h7]; decide)⟩
    · cases ho
      have h6 := h6 (by decide)
      obtain ⟨rfl, hR⟩ := hJ1 h6
      have HR := Lib.hid hR
      obtain rfl := hR.e1 (hpre ⟨1, .data⟩ (by simp) rfl)
      clear hR hpre hcl hJ1 hJ2 hJ3
      unfold StepIn fa41
      go_simp
      exact ⟨_, _, _, _, _, _, _, rfl, fun _ => ⟨rfl, { HR.out with e2 := fun _ => rfl }⟩, fun e => absurd (show L 6 = true from e) (by rw [h6]; decide), fun e => absurd (show L 7 = true from e) (by rw [h7]; decide)⟩
    · cases ho
      have h6 := h6 (by decide)
      obtain ⟨rfl, hR⟩ := hJ1 h6
      have HR := Lib.hid hR
      obtain rfl := hR.e2 (hpre ⟨2, .data⟩ (by simp) rfl)
      clear hR hpre hcl hJ1 hJ2 hJ3
      unfold StepIn fa41
      go_simp
      exact ⟨_, _, _, _, _, _, _, rfl, fun _ => ⟨rfl, { HR.out with e3 := fun _ => rfl }⟩, fun e => absurd (show L 6 = true from e) (by rw [h6]; decide), fun e => absurd (show L 7 = true from e) (by rw [h7]; decide)⟩
    · cases ho
      have h6 := h6 (by decide)
      obtain ⟨rfl, hR⟩ := hJ1 h6
      have HR := Lib.hid hR
      clear hR hpre hcl hJ1 hJ2 hJ3
      unfold StepIn fa41
      go_simp
      exact ⟨_, _, _, _, _, _, _, rfl, fun _ => ⟨rfl, { HR.out with e4 := fun _ => rfl }⟩, fun e => absurd (show L 6 = true from e) (by rw [h6]; decide), fun e => absurd (show L 7 = true from e) (by rw [h7]; decide)⟩
    · cases ho
      have h6 := h6 (by decide)
      obtain ⟨rfl, hR⟩ := hJ1 h6
      have HR := Lib.hid hR
      obtain rfl := hR.e4 (hpre ⟨4, .data⟩ (by simp) rfl)
      clear hR hpre hcl hJ1 hJ2 hJ3
      unfold StepIn fa41
      go_simp
      exact ⟨_, _, _, _, _, _, _, rfl, fun _ => ⟨rfl, { HR.out with e5 := fun _ => rfl }⟩, fun e => absurd (show L 6 = true from e) (by rw [h6]; decide), fun e => absurd (show L 7 = true from e) (by rw [h7]; decide)⟩
    · cases ho
      have h6 := h6 (by decide)
      obtain ⟨rfl, hR⟩ := hJ1 h6
      obtain rfl := hR.e3 (hpre ⟨3, .data⟩ (by simp) rfl)
      obtain rfl := hR.e5 (hpre ⟨5, .data⟩ (by simp) rfl)
      clear hR hpre hcl hJ1 hJ2 hJ3
      unfold StepIn fa41
      go_simp
      refine ⟨trivial, (by intro h; cases h), CallsIn.mono (callsIn_wide.2 Hcall.out) ?_⟩
      rintro e w3 ⟨u, rfl, hq⟩
      exact ⟨_, _, _, _, _, _, _, rfl, (nomatch ·), fun _ _ => hq, fun e => absurd (show L 7 = true from e) (by rw [h7]; decide)⟩
    · cases ho
      have h6 : L 6 = true := hpre ⟨6, .data⟩ (by simp) rfl
      have hq := Lib.hid (hJ2 h6 h7)
      obtain ⟨⟨A', n', c', rfl⟩, ⟨xx, hs2⟩, hs3⟩ := Hst.out _ _ hq.out
      clear hpre hcl hJ1 hJ2 hJ3
      unfold StepIn fa41
      go_simp
      exact ⟨_, _, _, _, _, _, _, rfl, fun e => absurd (show L 6 = false from e) (by rw [h6]; decide), (fun _ e => by cases e), fun _ => ⟨_, _, hq.out, rfl⟩⟩
  · rintro L a w1 hall ⟨x26, x27, x28, x29, x30, x31, x32, rfl, hJ1, hJ2, hJ3⟩
    obtain ⟨u, w0, hp, rfl⟩ := hJ3 (hall 7 (by decide))
    exact HQ.out _ _ hp _ _ _ _ _ _ _

structure Rg5 (pb off h0 ck : Nat) (Ak : Option Addr) (key : List Int) (tv : Value) (L : Nat → Bool) (x33 x34 x35 x36 x37 x38 : Value) : Prop where
  e0 : L 0 = true → x33 = .pointer (some ⟨pb, off, none⟩)
  e1 : L 1 = true → x34 = .pointer (some ⟨pb, off, none⟩)
  e2 : L 2 = true → x35 = .pointer (some ⟨pb, off, none⟩)
  e3 : L 3 = true → x36 = tv
  e4 : L 4 = true → x37 = .pointer (some ⟨h0 + 1, 2, none⟩)
  e5 : L 5 = true → x38 = .slice Ak key.length ck
def Jg5 (sp sv : Value) (h0 wb : Nat) (y7 y8 y9 y10 y11 y12 y13 y14 y15 y16 y17 y18 y19 y20 y21 y22 y23 y24 y25 y26 y27 y28 y29 y30 y31 y32 y40 y41 y42 y43 y44 y45 y46 y47 y48 y49 y50 y51 y52 y53 y54 y55 y56 y57 y58 y59 y60 y61 y62 y63 y64 y65 y66 y67 y68 y69 y70 y71 y72 y73 y74 y75 y76 y77 y78 y79 y80 y81 y82 y83 y84 y85 y86 y87 y88 y89 y90 y91 y92 y93 y94 y95 y96 y97 y98 y99 y100 y101 y102 y103 y104 y105 y106 y107 y108 y109 y110 y111 y112 y113 y114 y115 y116 y117 y118 y119 y120 y121 y122 y123 y124 y125 y126 y127 y128 : Value) (pb off ck : Nat) (Ak : Option Addr) (key : List Int) (tv : Value) (W : World) (Post : Value → World → Prop) (L : Nat → Bool) (a : Act) (w : World) : Prop :=
  ∃ x33 x34 x35 x36 x37 x38 x39 x6, a = (fa41 sp sv h0 wb x6 y7 y8 y9 y10 y11 y12 y13 y14 y15 y16 y17 y18 y19 y20 y21 y22 y23 y24 y25 y26 y27 y28 y29 y30 y31 y32 x33 x34 x35 x36 x37 x38 x39 y40 y41 y42 y43 y44 y45 y46 y47 y48 y49 y50 y51 y52 y53 y54 y55 y56 y57 y58 y59 y60 y61 y62 y63 y64 y65 y66 y67 y68 y69 y70 y71 y72 y73 y74 y75 y76 y77 y78 y79 y80 y81 y82 y83 y84 y85 y86 y87 y88 y89 y90 y91 y92 y93 y94 y95 y96 y97 y98 y99 y100 y101 y102 y103 y104 y105 y106 y107 y108 y109 y110 y111 y112 y113 y114 y115 y116 y117 y118 y119 y120 y121 y122 y123 y124 y125 y126 y127 y128) ∧ (L 6 = false → w = W.drew ∧ Rg5 pb off h0 ck Ak key tv L x33 x34 x35 x36 x37 x38) ∧ (L 6 = true → L 7 = false → Post x39 w) ∧ (L 7 = true → Post x6 w)

set_option maxHeartbeats 2000000 in
set_option maxRecDepth 100000 in
theorem g5_i (n : Nat) (Q : Exit → Act → World → Prop) (W : World) (sp sv : Value) (h0 wb pb off ck : Nat) (dov who val nv : Int) (Ak : Option Addr) (key : List Int) (tv : Value) (Post : Value → World → Prop)
    (hcp : W.cell? ⟨h0, 0, none⟩ = some (.pointer (some ⟨pb, off, none⟩))) (hbs : W.heap[h0 + 1]? = some (.cells #[.int .i64 dov, .int .i64 who, .slice Ak key.length ck, .int .i64 val, .int .i64 nv] 38 (0, 0))) (t : Nat) (hct : W.cell? ⟨pb, off, none⟩ = some (ptr t))
    (hcall : Calls Try.prog 13 #[ptr t, .slice Ak key.length ck] W.drew (fun e w' => ∃ u, e = .returned u ∧ Post u w'))  (y6 y7 y8 y9 y10 y11 y12 y13 y14 y15 y16 y17 y18 y19 y20 y21 y22 y23 y24 y25 y26 y27 y28 y29 y30 y31 y32 y33 y34 y35 y36 y37 y38 y39 y40 y41 y42 y43 y44 y45 y46 y47 y48 y49 y50 y51 y52 y53 y54 y55 y56 y57 y58 y59 y60 y61 y62 y63 y64 y65 y66 y67 y68 y69 y70 y71 y72 y73 y74 y75 y76 y77 y78 y79 y80 y81 y82 y83 y84 y85 y86 y87 y88 y89 y90 y91 y92 y93 y94 y95 y96 y97 y98 y99 y100 y101 y102 y103 y104 y105 y106 y107 y108 y109 y110 y111 y112 y113 y114 y115 y116 y117 y118 y119 y120 y121 y122 y123 y124 y125 y126 y127 y128 : Value)
    (hQ : ∀ u w', Post u w' → ∀ x33 x34 x35 x36 x37 x38 x39, Q .normal (fa41 sp sv h0 wb u y7 y8 y9 y10 y11 y12 y13 y14 y15 y16 y17 y18 y19 y20 y21 y22 y23 y24 y25 y26 y27 y28 y29 y30 y31 y32 x33 x34 x35 x36 x37 x38 x39 y40 y41 y42 y43 y44 y45 y46 y47 y48 y49 y50 y51 y52 y53 y54 y55 y56 y57 y58 y59 y60 y61 y62 y63 y64 y65 y66 y67 y68 y69 y70 y71 y72 y73 y74 y75 y76 y77 y78 y79 y80 y81 y82 y83 y84 y85 y86 y87 y88 y89 y90 y91 y92 y93 y94 y95 y96 y97 y98 y99 y100 y101 y102 y103 y104 y105 y106 y107 y108 y109 y110 y111 y112 y113 y114 y115 y116 y117 y118 y119 y120 y121 y122 y123 y124 y125 y126 y127 y128) w') : g5.wpIn Fence.wide n Try.prog Q (fa41 sp sv h0 wb y6 y7 y8 y9 y10 y11 y12 y13 y14 y15 y16 y17 y18 y19 y20 y21 y22 y23 y24 y25 y26 y27 y28 y29 y30 y31 y32 y33 y34 y35 y36 y37 y38 y39 y40 y41 y42 y43 y44 y45 y46 y47 y48 y49 y50 y51 y52 y53 y54 y55 y56 y57 y58 y59 y60 y61 y62 y63 y64 y65 y66 y67 y68 y69 y70 y71 y72 y73 y74 y75 y76 y77 y78 y79 y80 y81 y82 y83 y84 y85 y86 y87 y88 y89 y90 y91 y92 y93 y94 y95 y96 y97 y98 y99 y100 y101 y102 y103 y104 y105 y106 y107 y108 y109 y110 y111 y112 y113 y114 y115 y116 y117 y118 y119 y120 y121 y122 y123 y124 y125 y126 y127 y128) W := by
  have hcs2 : W.cell? ⟨h0 + 1, 2, none⟩ = some (.slice Ak key.length ck) := by simp [World.cell?, hbs]
  have Hcall := Lib.hid hcall
  have HQ := Lib.hid hQ
  clear hbs hcall hQ
  unfold g5 fa41
  dsimp only [Try.f41, bodyOf, sqF, sqS, cdT, bkB, lpB, rfB]
  refine wpIn_region_closed (by kernel_rfl) (by kernel_rfl) (Jg5 sp sv h0 wb y7 y8 y9 y10 y11 y12 y13 y14 y15 y16 y17 y18 y19 y20 y21 y22 y23 y24 y25 y26 y27 y28 y29 y30 y31 y32 y40 y41 y42 y43 y44 y45 y46 y47 y48 y49 y50 y51 y52 y53 y54 y55 y56 y57 y58 y59 y60 y61 y62 y63 y64 y65 y66 y67 y68 y69 y70 y71 y72 y73 y74 y75 y76 y77 y78 y79 y80 y81 y82 y83 y84 y85 y86 y87 y88 y89 y90 y91 y92 y93 y94 y95 y96 y97 y98 y99 y100 y101 y102 y103 y104 y105 y106 y107 y108 y109 y110 y111 y112 y113 y114 y115 y116 y117 y118 y119 y120 y121 y122 y123 y124 y125 y126 y127 y128 pb off ck Ak key (ptr t) W Post) ?_ ?_ ?_
  · exact ⟨y33, y34, y35, y36, y37, y38, y39, y6, rfl, fun _ => ⟨rfl, ⟨(nomatch ·), (nomatch ·), (nomatch ·), (nomatch ·), (nomatch ·), (nomatch ·)⟩⟩, (nomatch ·), (nomatch ·)⟩
  · intro i o L a w1 ho hL hpre hcl hJJ
    have hi : i < 8 := by
      rcases Nat.lt_or_ge i 8 with h | h
      · exact h
      · rw [Array.getElem?_eq_none (by simpa using h)] at ho; cases ho
    obtain ⟨x33, x34, x35, x36, x37, x38, x39, x6, rfl, hJ1, hJ2, hJ3⟩ := hJJ
    have h7 : L 7 = false := by
      cases h : L 7 with
      | false => rfl
      | true =>
        have c6 := hcl 7 _ rfl h ⟨6, .data⟩ (by simp) rfl
        have c3 := hcl 6 _ rfl c6 ⟨3, .data⟩ (by simp) rfl
        have c5 := hcl 6 _ rfl c6 ⟨5, .data⟩ (by simp) rfl
        have c2 := hcl 3 _ rfl c3 ⟨2, .data⟩ (by simp) rfl
        have c1 := hcl 2 _ rfl c2 ⟨1, .data⟩ (by simp) rfl
        have c0 := hcl 1 _ rfl c1 ⟨0, .data⟩ (by simp) rfl
        have c4 := hcl 5 _ rfl c5 ⟨4, .data⟩ (by simp) rfl
        rcases (by omega : i = 0 ∨ i = 1 ∨ i = 2 ∨ i = 3 ∨ i = 4 ∨ i = 5 ∨ i = 6 ∨ i = 7) with rfl | rfl | rfl | rfl | rfl | rfl | rfl | rfl <;> simp_all
    have h6 : i ≠ 7 → L 6 = false := fun hi7 => by
      cases h : L 6 with
      | false => rfl
      | true =>
        have c3 := hcl 6 _ rfl h ⟨3, .data⟩ (by simp) rfl
        have c5 := hcl 6 _ rfl h ⟨5, .data⟩ (by simp) rfl
        have c2 := hcl 3 _ rfl c3 ⟨2, .data⟩ (by simp) rfl
        have c1 := hcl 2 _ rfl c2 ⟨1, .data⟩ (by simp) rfl
        have c0 := hcl 1 _ rfl c1 ⟨0, .data⟩ (by simp) rfl
        have c4 := hcl 5 _ rfl c5 ⟨4, .data⟩ (by simp) rfl
        rcases (by omega : i = 0 ∨ i = 1 ∨ i = 2 ∨ i = 3 ∨ i = 4 ∨ i = 5 ∨ i = 6) with rfl | rfl | rfl | rfl | rfl | rfl | rfl <;> simp_all
    rcases (by omega : i = 0 ∨ i = 1 ∨ i = 2 ∨ i = 3 ∨ i = 4 ∨ i = 5 ∨ i = 6 ∨ i = 7) with rfl | rfl | rfl | rfl | rfl | rfl | rfl | rfl
    · cases ho
      have h6 := h6 (by decide)
      obtain ⟨rfl, hR⟩ := hJ1 h6
      have HR := Lib.hid hR
      clear hR hpre hcl hJ1 hJ2 hJ3
      unfold StepIn fa41
      go_simp
      exact ⟨_, _, _, _, _, _, _, _, rfl, fun _ => ⟨rfl, { HR.out with e0 := fun _ => rfl }⟩, fun e => absurd (show L 6 = true from e) (by rw [h6]; decide), fun e => absurd (show L 7 = true from e) (by rw [h7]; decide)⟩
    · cases ho
      have h6 := h6 (by decide)
      obtain ⟨rfl, hR⟩ := hJ1 h6
      have HR := Lib.hid hR
      obtain rfl := hR.e0 (hpre ⟨0, .data⟩ (by simp) rfl)
      clear hR hpre hcl hJ1 hJ2 hJ3
      unfold StepIn fa41
      go_simp
      exact ⟨_, _, _, _, _, _, _, _, rfl, fun _ => ⟨rfl, { HR.out with e1 := fun _ => rfl }⟩, fun e => absurd (show L 6 = true from e) (by rw [h6]; decide), fun e => absurd (show L 7 = true from e) (by rw [h7]; decide)⟩
    · cases ho
      have h6 := h6 (by decide)
      obtain ⟨rfl, hR⟩ := hJ1 h6
      have HR := Lib.hid hR
      obtain rfl := hR.e1 (hpre ⟨1, .data⟩ (by simp) rfl)
      clear hR hpre hcl hJ1 hJ2 hJ3
      unfold StepIn fa41
      go_simp
      exact ⟨_, _, _, _, _, _, _, _, rfl, fun _ => ⟨rfl, { HR.out with e2 := fun _ => rfl }⟩, fun e => absurd (show L 6 = true from e) (by rw [h6]; decide), fun e => absurd (show L 7 = true from e) (by rw [h7]; decide)⟩
    · cases ho
      have h6 := h6 (by decide)
      obtain ⟨rfl, hR⟩ := hJ1 h6
      have HR := Lib.hid hR
      obtain rfl := hR.e2 (hpre ⟨2, .data⟩ (by simp) rfl)
      clear hR hpre hcl hJ1 hJ2 hJ3
      unfold StepIn fa41
      go_simp
      exact ⟨_, _, _, _, _, _, _, _, rfl, fun _ => ⟨rfl, { HR.out with e3 := fun _ => rfl }⟩, fun e => absurd (show L 6 = true from e) (by rw [h6]; decide), fun e => absurd (show L 7 = true from e) (by rw [h7]; decide)⟩
    · cases ho
      have h6 := h6 (by decide)
      obtain ⟨rfl, hR⟩ := hJ1 h6
      have HR := Lib.hid hR
      clear hR hpre hcl hJ1 hJ2 hJ3
      unfold StepIn fa41
      go_simp
      exact ⟨_, _, _, _, _, _, _, _, rfl, fun _ => ⟨rfl, { HR.out with e4 := fun _ => rfl }⟩, fun e => absurd (show L 6 = true from e) (by rw [h6]; decide), fun e => absurd (show L 7 = true from e) (by rw [h7]; decide)⟩
    · cases ho
      have h6 := h6 (by decide)
      obtain ⟨rfl, hR⟩ := hJ1 h6
      have HR := Lib.hid hR
      obtain rfl := hR.e4 (hpre ⟨4, .data⟩ (by simp) rfl)
      clear hR hpre hcl hJ1 hJ2 hJ3
      unfold StepIn fa41
      go_simp
      exact ⟨_, _, _, _, _, _, _, _, rfl, fun _ => ⟨rfl, { HR.out with e5 := fun _ => rfl }⟩, fun e => absurd (show L 6 = true from e) (by rw [h6]; decide), fun e => absurd (show L 7 = true from e) (by rw [h7]; decide)⟩
    · cases ho
      have h6 := h6 (by decide)
      obtain ⟨rfl, hR⟩ := hJ1 h6
      obtain rfl := hR.e3 (hpre ⟨3, .data⟩ (by simp) rfl)
      obtain rfl := hR.e5 (hpre ⟨5, .data⟩ (by simp) rfl)
      clear hR hpre hcl hJ1 hJ2 hJ3
      unfold StepIn fa41
      go_simp
      refine ⟨trivial, (by intro h; cases h), CallsIn.mono (callsIn_wide.2 Hcall.out) ?_⟩
      rintro e w3 ⟨u, rfl, hq⟩
      exact ⟨_, _, _, _, _, _, _, _, rfl, (nomatch ·), fun _ _ => hq, fun e => absurd (show L 7 = true from e) (by rw [h7]; decide)⟩
    · cases ho
      have h6 : L 6 = true := hpre ⟨6, .data⟩ (by simp) rfl
      have hq := Lib.hid (hJ2 h6 h7)
      clear hpre hcl hJ1 hJ2 hJ3
      unfold StepIn fa41
      go_simp
      exact ⟨_, _, _, _, _, _, _, _, rfl, fun e => absurd (show L 6 = false from e) (by rw [h6]; decide), (fun _ e => by cases e), fun _ => hq.out⟩
  · rintro L a w1 hall ⟨x33, x34, x35, x36, x37, x38, x39, x6, rfl, hJ1, hJ2, hJ3⟩
    exact HQ.out _ _ (hJ3 (hall 7 (by decide))) _ _ _ _ _ _ _

end Go.Proofs.Ytioflglfnalcaaa

/- TriePlays: walked: printed by gen_pp.py. -/
namespace Go.Proofs.Ytioflglfnalcaaa
open Go.RowKit

attribute [local go_sem] Oper.semAt_some

set_option maxHeartbeats 1000000 in
set_option maxRecDepth 100000 in
theorem t41_out (n : Nat) (Q : Exit → Act → World → Prop) (W : World) (h0 wb tb : Nat) (sp sv it : Value) (ds : List Deferred) (ht : Boxed W tb 3 (.int .i64 4)) (y8 y9 y10 y11 y12 y13 y14 y15 y16 y17 y18 y19 y20 y21 y22 y23 y24 y25 y26 y27 y28 y29 y30 y31 y32 y33 y34 y35 y36 y37 y38 y39 y40 y41 y42 y43 y44 y45 y46 y47 y48 y49 y50 y51 y52 y53 y54 y55 y56 y57 y58 y59 y60 y61 y62 y63 y64 y65 y66 y67 y68 y69 y70 y71 y72 y73 y74 y75 y76 y77 y78 y79 y80 y81 y82 y83 y84 y85 y86 y87 y88 y89 y90 y91 y92 y93 y94 y95 y96 y97 y98 y99 y100 y101 y102 y103 y104 y105 y106 y107 y108 y109 y110 y111 y112 y113 y114 y115 y116 y117 y118 y119 y120 y121 y122 y123 y124 y125 y126 y127 y128 : Value)
    (hQ : ∀ y8 y9 y10 y11 y12 y13 y14 y15 y16 y17 y18 y19 y20 y21 y22 y23 y24 y25 y26 y27 y28 y29 y30 y31 y32 y33 y34 y35 y36 y37 y38 y39 y40 y41 y42 y43 y44 y45 y46 y47 y48 y49 y50 y51 y52 y53 y54 y55 y56 y57 y58 y59 y60 y61 y62 y63 y64 y65 y66 y67 y68 y69 y70 y71 y72 y73 y74 y75 y76 y77 y78 y79 y80 y81 y82 y83 y84 y85 y86 y87 y88 y89 y90 y91 y92 y93 y94 y95 y96 y97 y98 y99 y100 y101 y102 y103 y104 y105 y106 y107 y108 y109 y110 y111 y112 y113 y114 y115 y116 y117 y118 y119 y120 y121 y122 y123 y124 y125 y126 y127 y128, Q (.exit 0) (fw41 sp sv h0 wb tb it y8 y9 y10 y11 y12 y13 y14 y15 y16 y17 y18 y19 y20 y21 y22 y23 y24 y25 y26 y27 y28 y29 y30 y31 y32 y33 y34 y35 y36 y37 y38 y39 y40 y41 y42 y43 y44 y45 y46 y47 y48 y49 y50 y51 y52 y53 y54 y55 y56 y57 y58 y59 y60 y61 y62 y63 y64 y65 y66 y67 y68 y69 y70 y71 y72 y73 y74 y75 y76 y77 y78 y79 y80 y81 y82 y83 y84 y85 y86 y87 y88 y89 y90 y91 y92 y93 y94 y95 y96 y97 y98 y99 y100 y101 y102 y103 y104 y105 y106 y107 y108 y109 y110 y111 y112 y113 y114 y115 y116 y117 y118 y119 y120 y121 y122 y123 y124 y125 y126 y127 y128 ds) W) : t41.wpIn Fence.wide n Try.prog Q (fw41 sp sv h0 wb tb it y8 y9 y10 y11 y12 y13 y14 y15 y16 y17 y18 y19 y20 y21 y22 y23 y24 y25 y26 y27 y28 y29 y30 y31 y32 y33 y34 y35 y36 y37 y38 y39 y40 y41 y42 y43 y44 y45 y46 y47 y48 y49 y50 y51 y52 y53 y54 y55 y56 y57 y58 y59 y60 y61 y62 y63 y64 y65 y66 y67 y68 y69 y70 y71 y72 y73 y74 y75 y76 y77 y78 y79 y80 y81 y82 y83 y84 y85 y86 y87 y88 y89 y90 y91 y92 y93 y94 y95 y96 y97 y98 y99 y100 y101 y102 y103 y104 y105 y106 y107 y108 y109 y110 y111 y112 y113 y114 y115 y116 y117 y118 y119 y120 y121 y122 y123 y124 y125 y126 y127 y128 ds) W := by
  have ct := ht.cell
  have HQ := Lib.hid hQ
  clear hQ ht
  unfold t41 w41 fw41
  dsimp only [Try.f41, bodyOf, sqF, sqS, cdT, bkB, lpB, rfB]
  gi_wp2
  exact HQ.out _ _ _ _ _ _ _ _ _ _ _ _ _ _ _ _ _ _ _ _ _ _ _ _ _ _ _ _ _ _ _ _ _ _ _ _ _ _ _ _ _ _ _ _ _ _ _ _ _ _ _ _ _ _ _ _ _ _ _ _ _ _ _ _ _ _ _ _ _ _ _ _ _ _ _ _ _ _ _ _ _ _ _ _ _ _ _ _ _ _ _ _ _ _ _ _ _ _ _ _ _ _ _ _ _ _ _ _ _ _ _ _ _ _ _ _ _ _ _ _ _

/-- walked's loop. -/
theorem l41_i (Z0 : Nat → Prop) (n : Nat) (Q : Exit → Act → World → Prop) (Ti : AT) (WC W : World) (B B0 h0 pb off wb tb t : Nat) (dov who val nv : Int) (Ak : Option Addr) (ck : Nat) (key : List Int) (vw : Value) (want : List RowT) (ks : List (List Int)) (br bt : Nat) (rv tv : Value) (rvals : List Value) (sp sv : Value)
    (hT : TW Z0 Ti WC W B B0 h0 pb off wb tb t dov who val nv Ak ck key vw want ks br bt rv tv rvals 0 []) (hTi : ∀ j, Ti.own j → B0 ≤ j) (hB0 : B0 ≤ pb ∧ pb < WC.heap.size) (hwks : ∀ x ∈ want, x.1.length ≤ 35184372087808) (hwl : want.length ≤ 2550000000000) (hkey : key ∈ ks)
    (hQ : ∀ W' tb' ds, TW Z0 Ti WC W' B B0 h0 pb off wb tb' t dov who val nv Ak ck key vw want ks br bt rv tv rvals 4 ds → ∀ y8 y9 y10 y11 y12 y13 y14 y15 y16 y17 y18 y19 y20 y21 y22 y23 y24 y25 y26 y27 y28 y29 y30 y31 y32 y33 y34 y35 y36 y37 y38 y39 y40 y41 y42 y43 y44 y45 y46 y47 y48 y49 y50 y51 y52 y53 y54 y55 y56 y57 y58 y59 y60 y61 y62 y63 y64 y65 y66 y67 y68 y69 y70 y71 y72 y73 y74 y75 y76 y77 y78 y79 y80 y81 y82 y83 y84 y85 y86 y87 y88 y89 y90 y91 y92 y93 y94 y95 y96 y97 y98 y99 y100 y101 y102 y103 y104 y105 y106 y107 y108 y109 y110 y111 y112 y113 y114 y115 y116 y117 y118 y119 y120 y121 y122 y123 y124 y125 y126 y127 y128, Q (.exit 0) (fw41 sp sv h0 wb tb' (.func (.func 48) #[] #[ptr br, ptr bt]) y8 y9 y10 y11 y12 y13 y14 y15 y16 y17 y18 y19 y20 y21 y22 y23 y24 y25 y26 y27 y28 y29 y30 y31 y32 y33 y34 y35 y36 y37 y38 y39 y40 y41 y42 y43 y44 y45 y46 y47 y48 y49 y50 y51 y52 y53 y54 y55 y56 y57 y58 y59 y60 y61 y62 y63 y64 y65 y66 y67 y68 y69 y70 y71 y72 y73 y74 y75 y76 y77 y78 y79 y80 y81 y82 y83 y84 y85 y86 y87 y88 y89 y90 y91 y92 y93 y94 y95 y96 y97 y98 y99 y100 y101 y102 y103 y104 y105 y106 y107 y108 y109 y110 y111 y112 y113 y114 y115 y116 y117 y118 y119 y120 y121 y122 y123 y124 y125 y126 y127 y128 (Dl ds)) W')
    (y8 y9 y10 y11 y12 y13 y14 y15 y16 y17 y18 y19 y20 y21 y22 y23 y24 y25 y26 y27 y28 y29 y30 y31 y32 y33 y34 y35 y36 y37 y38 y39 y40 y41 y42 y43 y44 y45 y46 y47 y48 y49 y50 y51 y52 y53 y54 y55 y56 y57 y58 y59 y60 y61 y62 y63 y64 y65 y66 y67 y68 y69 y70 y71 y72 y73 y74 y75 y76 y77 y78 y79 y80 y81 y82 y83 y84 y85 y86 y87 y88 y89 y90 y91 y92 y93 y94 y95 y96 y97 y98 y99 y100 y101 y102 y103 y104 y105 y106 y107 y108 y109 y110 y111 y112 y113 y114 y115 y116 y117 y118 y119 y120 y121 y122 y123 y124 y125 y126 y127 y128 : Value) : (Code.loop t41).wpIn Fence.wide n Try.prog Q (fw41 sp sv h0 wb tb (.func (.func 48) #[] #[ptr br, ptr bt]) y8 y9 y10 y11 y12 y13 y14 y15 y16 y17 y18 y19 y20 y21 y22 y23 y24 y25 y26 y27 y28 y29 y30 y31 y32 y33 y34 y35 y36 y37 y38 y39 y40 y41 y42 y43 y44 y45 y46 y47 y48 y49 y50 y51 y52 y53 y54 y55 y56 y57 y58 y59 y60 y61 y62 y63 y64 y65 y66 y67 y68 y69 y70 y71 y72 y73 y74 y75 y76 y77 y78 y79 y80 y81 y82 y83 y84 y85 y86 y87 y88 y89 y90 y91 y92 y93 y94 y95 y96 y97 y98 y99 y100 y101 y102 y103 y104 y105 y106 y107 y108 y109 y110 y111 y112 y113 y114 y115 y116 y117 y118 y119 y120 y121 y122 y123 y124 y125 y126 y127 y128 (Dl [])) W := by
  refine wpIn_loop_rounds 5 ?_
  refine t41_i Z0 n _ Ti WC W B B0 h0 pb off wb tb t dov who val nv Ak ck key vw want ks br bt rv tv rvals 0 [] sp sv hT (by omega) hTi hB0 hwks hwl hkey ?_ _ _ _ _ _ _ _ _ _ _ _ _ _ _ _ _ _ _ _ _ _ _ _ _ _ _ _ _ _ _ _ _ _ _ _ _ _ _ _ _ _ _ _ _ _ _ _ _ _ _ _ _ _ _ _ _ _ _ _ _ _ _ _ _ _ _ _ _ _ _ _ _ _ _ _ _ _ _ _ _ _ _ _ _ _ _ _ _ _ _ _ _ _ _ _ _ _ _ _ _ _ _ _ _ _ _ _ _ _ _ _ _ _ _ _ _ _ _ _ _ _
  intro W1 tb1 d1 hT1 _ _ _ _ _ _ _ _ _ _ _ _ _ _ _ _ _ _ _ _ _ _ _ _ _ _ _ _ _ _ _ _ _ _ _ _ _ _ _ _ _ _ _ _ _ _ _ _ _ _ _ _ _ _ _ _ _ _ _ _ _ _ _ _ _ _ _ _ _ _ _ _ _ _ _ _ _ _ _ _ _ _ _ _ _ _ _ _ _ _ _ _ _ _ _ _ _ _ _ _ _ _ _ _ _ _ _ _ _ _ _ _ _ _ _ _ _ _ _ _ _
  refine t41_i Z0 n _ Ti WC W1 B B0 h0 pb off wb tb1 t dov who val nv Ak ck key vw want ks br bt rv tv rvals 1 _ sp sv hT1 (by omega) hTi hB0 hwks hwl hkey ?_ _ _ _ _ _ _ _ _ _ _ _ _ _ _ _ _ _ _ _ _ _ _ _ _ _ _ _ _ _ _ _ _ _ _ _ _ _ _ _ _ _ _ _ _ _ _ _ _ _ _ _ _ _ _ _ _ _ _ _ _ _ _ _ _ _ _ _ _ _ _ _ _ _ _ _ _ _ _ _ _ _ _ _ _ _ _ _ _ _ _ _ _ _ _ _ _ _ _ _ _ _ _ _ _ _ _ _ _ _ _ _ _ _ _ _ _ _ _ _ _ _
  intro W2 tb2 d2 hT2 _ _ _ _ _ _ _ _ _ _ _ _ _ _ _ _ _ _ _ _ _ _ _ _ _ _ _ _ _ _ _ _ _ _ _ _ _ _ _ _ _ _ _ _ _ _ _ _ _ _ _ _ _ _ _ _ _ _ _ _ _ _ _ _ _ _ _ _ _ _ _ _ _ _ _ _ _ _ _ _ _ _ _ _ _ _ _ _ _ _ _ _ _ _ _ _ _ _ _ _ _ _ _ _ _ _ _ _ _ _ _ _ _ _ _ _ _ _ _ _ _
  refine t41_i Z0 n _ Ti WC W2 B B0 h0 pb off wb tb2 t dov who val nv Ak ck key vw want ks br bt rv tv rvals 2 _ sp sv hT2 (by omega) hTi hB0 hwks hwl hkey ?_ _ _ _ _ _ _ _ _ _ _ _ _ _ _ _ _ _ _ _ _ _ _ _ _ _ _ _ _ _ _ _ _ _ _ _ _ _ _ _ _ _ _ _ _ _ _ _ _ _ _ _ _ _ _ _ _ _ _ _ _ _ _ _ _ _ _ _ _ _ _ _ _ _ _ _ _ _ _ _ _ _ _ _ _ _ _ _ _ _ _ _ _ _ _ _ _ _ _ _ _ _ _ _ _ _ _ _ _ _ _ _ _ _ _ _ _ _ _ _ _ _
  intro W3 tb3 d3 hT3 _ _ _ _ _ _ _ _ _ _ _ _ _ _ _ _ _ _ _ _ _ _ _ _ _ _ _ _ _ _ _ _ _ _ _ _ _ _ _ _ _ _ _ _ _ _ _ _ _ _ _ _ _ _ _ _ _ _ _ _ _ _ _ _ _ _ _ _ _ _ _ _ _ _ _ _ _ _ _ _ _ _ _ _ _ _ _ _ _ _ _ _ _ _ _ _ _ _ _ _ _ _ _ _ _ _ _ _ _ _ _ _ _ _ _ _ _ _ _ _ _
  refine t41_i Z0 n _ Ti WC W3 B B0 h0 pb off wb tb3 t dov who val nv Ak ck key vw want ks br bt rv tv rvals 3 _ sp sv hT3 (by omega) hTi hB0 hwks hwl hkey ?_ _ _ _ _ _ _ _ _ _ _ _ _ _ _ _ _ _ _ _ _ _ _ _ _ _ _ _ _ _ _ _ _ _ _ _ _ _ _ _ _ _ _ _ _ _ _ _ _ _ _ _ _ _ _ _ _ _ _ _ _ _ _ _ _ _ _ _ _ _ _ _ _ _ _ _ _ _ _ _ _ _ _ _ _ _ _ _ _ _ _ _ _ _ _ _ _ _ _ _ _ _ _ _ _ _ _ _ _ _ _ _ _ _ _ _ _ _ _ _ _ _
  intro W4 tb4 d4 hT4 _ _ _ _ _ _ _ _ _ _ _ _ _ _ _ _ _ _ _ _ _ _ _ _ _ _ _ _ _ _ _ _ _ _ _ _ _ _ _ _ _ _ _ _ _ _ _ _ _ _ _ _ _ _ _ _ _ _ _ _ _ _ _ _ _ _ _ _ _ _ _ _ _ _ _ _ _ _ _ _ _ _ _ _ _ _ _ _ _ _ _ _ _ _ _ _ _ _ _ _ _ _ _ _ _ _ _ _ _ _ _ _ _ _ _ _ _ _ _ _ _
  refine t41_out n _ W4 h0 wb tb4 sp sv _ _ hT4.cy.bt _ _ _ _ _ _ _ _ _ _ _ _ _ _ _ _ _ _ _ _ _ _ _ _ _ _ _ _ _ _ _ _ _ _ _ _ _ _ _ _ _ _ _ _ _ _ _ _ _ _ _ _ _ _ _ _ _ _ _ _ _ _ _ _ _ _ _ _ _ _ _ _ _ _ _ _ _ _ _ _ _ _ _ _ _ _ _ _ _ _ _ _ _ _ _ _ _ _ _ _ _ _ _ _ _ _ _ _ _ _ _ _ _ _ _ _ _ _ _ _ _ ?_
  intro _ _ _ _ _ _ _ _ _ _ _ _ _ _ _ _ _ _ _ _ _ _ _ _ _ _ _ _ _ _ _ _ _ _ _ _ _ _ _ _ _ _ _ _ _ _ _ _ _ _ _ _ _ _ _ _ _ _ _ _ _ _ _ _ _ _ _ _ _ _ _ _ _ _ _ _ _ _ _ _ _ _ _ _ _ _ _ _ _ _ _ _ _ _ _ _ _ _ _ _ _ _ _ _ _ _ _ _ _ _ _ _ _ _ _ _ _ _ _ _ _
  exact hQ W4 tb4 _ hT4 _ _ _ _ _ _ _ _ _ _ _ _ _ _ _ _ _ _ _ _ _ _ _ _ _ _ _ _ _ _ _ _ _ _ _ _ _ _ _ _ _ _ _ _ _ _ _ _ _ _ _ _ _ _ _ _ _ _ _ _ _ _ _ _ _ _ _ _ _ _ _ _ _ _ _ _ _ _ _ _ _ _ _ _ _ _ _ _ _ _ _ _ _ _ _ _ _ _ _ _ _ _ _ _ _ _ _ _ _ _ _ _ _ _ _ _ _ _ _ _ _

theorem resultsW44 {fn : Func} (hfn : fn.results = #[.cell 4 4]) {tmps : Array Value} {b0 : Nat} {W : World} (ht : tmps.getD 4 undef = .pointer (some ⟨b0, 0, none⟩)) (hW : W.cell? ⟨b0, 0, none⟩ = some (.bool true)) : (results fn tmps).run Try.prog W = .ok (.bool true) W := by
  have h4 := Try.underlying4
  have ht' : tmps[4]?.getD undef = .pointer (some ⟨b0, 0, none⟩) := by rw [← Array.getD_eq_getD_getElem?]; exact ht
  simp [results, hfn, ht', hW, go_sem]
theorem run_eql_funcs48_nil (W : World) (a b : Array Value) : (binOp BinOp.eql 33 (.func (.func 48) a b) .nilFunc).run Try.prog W = .ok (.bool false) W := by kernel_rfl

/-- What walked comes to. -/
def WalkP (Z0 : Nat → Prop) (w : World) (pb off t : Nat) (T0 : AT) (ks : List (List Int)) (e : Ending) (w' : World) : Prop :=
  e = .returned (.bool true) ∧ ∃ T v L, Mv T0 T pb off w w' ∧ Pq (fun j => Z0 j ∨ w.heap.size ≤ j) w' pb off t T v L L ks

theorem walk_end (Z0 : Nat → Prop) (n : Nat) (w W0 W : World) (sp sv it : Value) (Ti : AT) (B B0 h0 pb off wb tb t : Nat) (dov who val nv : Int) (Ak : Option Addr) (ck : Nat) (key : List Int) (vw : Value) (want : List RowT) (ks : List (List Int)) (br bt : Nat) (rv tv : Value) (rvals : List Value) (ds : List Nat)
    (hT : TW (fun j => Z0 j ∨ w.heap.size ≤ j) Ti W0 W B B0 h0 pb off wb tb t dov who val nv Ak ck key vw want ks br bt rv tv rvals 4 ds) (hMw : ∀ T W, Mv Ti T pb off W0 W → Mv Ti T pb off w W) (hs : w.heap.size ≤ h0 ∧ W0.heap.size ≥ w.heap.size) (hh : pb < w.heap.size) (y8 y9 y10 y11 y12 y13 y14 y15 y16 y17 y18 y19 y20 y21 y22 y23 y24 y25 y26 y27 y28 y29 y30 y31 y32 y33 y34 y35 y36 y37 y38 y39 y40 y41 y42 y43 y44 y45 y46 y47 y48 y49 y50 y51 y52 y53 y54 y55 y56 y57 y58 y59 y60 y61 y62 y63 y64 y65 y66 y67 y68 y69 y70 y71 y72 y73 y74 y75 y76 y77 y78 y79 y80 y81 y82 y83 y84 y85 y86 y87 y88 y89 y90 y91 y92 y93 y94 y95 y96 y97 y98 y99 y100 y101 y102 y103 y104 y105 y106 y107 y108 y109 y110 y111 y112 y113 y114 y115 y116 y117 y118 y119 y120 y121 y122 y123 y124 y125 y126 y127 y128 : Value) :
    LeavesInM Fence.wide n Try.prog Try.f41 (fw41 sp sv h0 wb tb it y8 y9 y10 y11 y12 y13 y14 y15 y16 y17 y18 y19 y20 y21 y22 y23 y24 y25 y26 y27 y28 y29 y30 y31 y32 y33 y34 y35 y36 y37 y38 y39 y40 y41 y42 y43 y44 y45 y46 y47 y48 y49 y50 y51 y52 y53 y54 y55 y56 y57 y58 y59 y60 y61 y62 y63 y64 y65 y66 y67 y68 y69 y70 y71 y72 y73 y74 y75 y76 y77 y78 y79 y80 y81 y82 y83 y84 y85 y86 y87 y88 y89 y90 y91 y92 y93 y94 y95 y96 y97 y98 y99 y100 y101 y102 y103 y104 y105 y106 y107 y108 y109 y110 y111 y112 y113 y114 y115 y116 y117 y118 y119 y120 y121 y122 y123 y124 y125 y126 y127 y128 (Dl ds)).tmps (WalkP Z0 w pb off t Ti ks) (Dl ds) .returning (W.setCell ⟨h0 + 2, 0, none⟩ (.bool true)) := by
  obtain ⟨⟨T, v, L, hM, hP⟩, hC, hColl, hdd, hdn, hdl⟩ := hT
  have hF : Fr (fun j => j = h0 + 2) W (W.setCell ⟨h0 + 2, 0, none⟩ (.bool true)) := (Fr.refl (fun j => j = h0 + 2) W).setCell (p := ⟨h0 + 2, 0, none⟩) (.inl rfl) _
  have hbx : Boxed (W.setCell ⟨h0 + 2, 0, none⟩ (.bool true)) (h0 + 2) 4 (.bool true) := hC.br.set _
  have hnd : ∀ d ∈ ds, d ≠ h0 + 2 := fun d hd e => by
    have h1 := hdd d hd
    rw [e, hC.br] at h1
    injection h1 with h1; cases h1
  have hdd2 : ∀ d ∈ ds, (W.setCell ⟨h0 + 2, 0, none⟩ (.bool true)).heap[d]? = some (.deferred (some [])) := fun d hd => (hF.block d (lt_of_heap (hdd d hd)) (hnd d hd)).trans (hdd d hd)
  have hM2 := (hMw _ _ hM).free hh hF fun j e => by omega
  have hP2 : Pq (fun j => Z0 j ∨ w.heap.size ≤ j) (W.setCell ⟨h0 + 2, 0, none⟩ (.bool true)) pb off t T v L L ks := by
    refine (hP.mono (Z' := (fun j => Z0 j ∨ w.heap.size ≤ j)) fun j _ h => h.elim id fun h => .inr (by omega)).frame hF (fun j hj e => ?_) (fun e => ?_) fun j c ty f e hj ht _ => ?_
    · subst e
      rcases hP.tri.ty hj hC.br with h | h <;> cases h
    · omega
    · subst e
      rw [hC.br] at hj
      injection hj with hj; injection hj with _ hj
      rcases ht with h | h <;> (rw [← hj] at h; cases h)
  refine leavesN n Try.f41 _ _ ds _ hdd2 hdn ?_
  intro W' hFd
  have hbx2 : Boxed W' (h0 + 2) 4 (.bool true) := hFd.heap hbx fun e => hnd _ e rfl
  refine ⟨.bool true, resultsW44 rfl (b0 := h0 + 2) rfl hbx2.cell, rfl, T, v, L, hM2.free hh hFd fun j e => ?_, ?_⟩
  · have := hdl j e; omega
  · refine hP2.frame hFd (fun j hj e => ?_) (fun e => ?_) fun j c ty f e hj _ _ => ?_
    · have h1 := hdd2 j e
      rcases hj with ⟨p, hp⟩ | ⟨p, hp⟩
      · have := hP2.tri.rep.node p j hp
        rw [h1] at this
        unfold nodeObj at this
        split at this <;> (injection this with this; cases this)
      · have := hP2.tri.rep.map p j hp
        rw [h1] at this
        injection this with this; cases this
    · have := hdl _ e
      have := hs.2
      omega
    · rw [hdd2 j e] at hj
      injection hj with hj; cases hj

/-- walked behind its iterator. -/
noncomputable def wr41 : Code := sqS (sqS (sqS (sqS (bodyOf Try.f41))))

set_option maxHeartbeats 4000000 in
set_option maxRecDepth 100000 in
theorem wr41_i (Z0 : Nat → Prop) (n : Nat) (w W : World) (sp sv : Value) (B B0 h0 pb off wb t : Nat) (dov who val nv : Int) (Ak : Option Addr) (ck : Nat) (key : List Int) (vw : Value) (want : List RowT) (ks : List (List Int)) (br bt : Nat) (rv tv : Value) (rvals : List Value) (T : AT) (v : Value) (L : List RowT)
    (hP : Pq (fun j => Z0 j ∨ w.heap.size ≤ j) W pb off t T v L L ks) (hMw : Mv T T pb off w W) (bp : Boxed W h0 35 (.pointer (some ⟨pb, off, none⟩)))
    (bs : W.heap[h0 + 1]? = some (.cells #[.int .i64 dov, .int .i64 who, .slice Ak key.length ck, .int .i64 val, .int .i64 nv] 38 (0, 0))) (bb : Boxed W (h0 + 2) 4 (.bool false)) (bw : Boxed W wb 25 vw)
    (hrw : RefIs AnyZ W vw want) (hrk : RdI W Ak key) (hlk : ∀ ad, Ak = some ad → key ≠ [] → ad.block < B0) (hColl : Coll 43 64 3 B W br bt rv tv rvals ((outs want).map (·.2)) ((outs want).map (·.1)))
    (hTi : ∀ j, T.own j → B0 ≤ j) (hB0 : B0 ≤ pb) (hh : pb < w.heap.size) (hs : w.heap.size ≤ h0) (hwks : ∀ x ∈ want, x.1.length ≤ 35184372087808) (hwl : want.length ≤ 2550000000000) (hkey : key ∈ ks) (y7 y8 y9 y10 y11 y12 y13 y14 y15 y16 y17 y18 y19 y20 y21 y22 y23 y24 y25 y26 y27 y28 y29 y30 y31 y32 y33 y34 y35 y36 y37 y38 y39 y40 y41 y42 y43 y44 y45 y46 y47 y48 y49 y50 y51 y52 y53 y54 y55 y56 y57 y58 y59 y60 y61 y62 y63 y64 y65 y66 y67 y68 y69 y70 y71 y72 y73 y74 y75 y76 y77 y78 y79 y80 y81 y82 y83 y84 y85 y86 y87 y88 y89 y90 y91 y92 y93 y94 y95 y96 y97 y98 y99 y100 y101 y102 y103 y104 y105 y106 y107 y108 y109 y110 y111 y112 y113 y114 y115 y116 y117 y118 y119 y120 y121 y122 y123 y124 y125 y126 y127 y128 : Value) :
    wr41.wpIn Fence.wide n Try.prog (bodyPostM Fence.wide n Try.prog Try.f41 (WalkP Z0 w pb off t T ks)) (fa41 sp sv h0 wb (.func (.func 48) #[] #[ptr br, ptr bt]) y7 y8 y9 y10 y11 y12 y13 y14 y15 y16 y17 y18 y19 y20 y21 y22 y23 y24 y25 y26 y27 y28 y29 y30 y31 y32 y33 y34 y35 y36 y37 y38 y39 y40 y41 y42 y43 y44 y45 y46 y47 y48 y49 y50 y51 y52 y53 y54 y55 y56 y57 y58 y59 y60 y61 y62 y63 y64 y65 y66 y67 y68 y69 y70 y71 y72 y73 y74 y75 y76 y77 y78 y79 y80 y81 y82 y83 y84 y85 y86 y87 y88 y89 y90 y91 y92 y93 y94 y95 y96 y97 y98 y99 y100 y101 y102 y103 y104 y105 y106 y107 y108 y109 y110 y111 y112 y113 y114 y115 y116 y117 y118 y119 y120 y121 y122 y123 y124 y125 y126 y127 y128) W := by
  have hE := run_eql_funcs48_nil
  obtain ⟨W1, hW1⟩ : ∃ W1, W1 = W.alloc (.cells #[.int .i64 0] 3) := ⟨_, rfl⟩
  have hb1 : Below W.heap.size W W1 := by rw [hW1]; exact (Below.refl _ _).alloc (Nat.le_refl _) _
  have hx1 : Boxed W1 W.heap.size 3 (.int .i64 0) := by rw [hW1]; exact heap_alloc_eq _ _
  have hlW := hMw.fr.size
  have hT : TW (fun j => Z0 j ∨ w.heap.size ≤ j) T W1 W1 B B0 h0 pb off wb W.heap.size t dov who val nv Ak ck key vw want ks br bt rv tv rvals 0 [] := by
    refine ⟨⟨T, v, L, Mv.refl (hP.new hb1), (hP.mono fun j _ h => .inl h).new hb1⟩, ⟨boxed_new bp hb1, (hb1.block _ (lt_of_heap bs)).trans bs, boxed_new bb hb1, boxed_new bw hb1, hx1, hrw.new hb1, rdI_below hrk hb1, hlk⟩, hColl.nice (Fr.of_below hb1 Nob) (B0 := B0) (fun _ h => h.elim), by simp, by simp, by simp⟩
  have hMw1 : ∀ T' W', Mv T T' pb off W1 W' → Mv T T' pb off w W' := fun T' W' h => (hMw.new hh hb1).trans h
  have hs1 : w.heap.size ≤ W1.heap.size := Nat.le_trans hlW hb1.size
  have hpb1 : pb < W1.heap.size := Nat.lt_of_lt_of_le hh hs1
  have bbx := bb
  replace hW1 := Lib.hid hW1
  replace hT := Lib.hid hT
  replace hMw1 := Lib.hid hMw1
  have hTi' := Lib.hid hTi
  have hwks' := Lib.hid hwks
  obtain ⟨QQ, hQQ⟩ : ∃ QQ, QQ = bodyPostM Fence.wide n Try.prog Try.f41 (WalkP Z0 w pb off t T ks) := ⟨_, rfl⟩
  rw [← hQQ]
  replace hQQ := Lib.hid hQQ
  clear hP hMw bp bs bb bw hrw hrk hlk hColl hb1 hx1 hTi hwks bbx
  unfold wr41 fa41
  dsimp only [Try.f41, bodyOf, sqF, sqS, cdT, bkB, lpB, rfB]
  gi_wp2_with fail
  rw [← hW1.out]
  generalize W.heap.size = tb at *
  refine l41_i (fun j => Z0 j ∨ w.heap.size ≤ j) n _ T W1 W1 B B0 h0 pb off wb tb t dov who val nv Ak ck key vw want ks br bt rv tv rvals sp sv hT.out hTi'.out ⟨hB0, hpb1⟩ hwks'.out hwl hkey ?_ _ _ _ _ _ _ _ _ _ _ _ _ _ _ _ _ _ _ _ _ _ _ _ _ _ _ _ _ _ _ _ _ _ _ _ _ _ _ _ _ _ _ _ _ _ _ _ _ _ _ _ _ _ _ _ _ _ _ _ _ _ _ _ _ _ _ _ _ _ _ _ _ _ _ _ _ _ _ _ _ _ _ _ _ _ _ _ _ _ _ _ _ _ _ _ _ _ _ _ _ _ _ _ _ _ _ _ _ _ _ _ _ _ _ _ _ _ _ _ _ _
  intro W' tb' ds hT' _ _ _ _ _ _ _ _ _ _ _ _ _ _ _ _ _ _ _ _ _ _ _ _ _ _ _ _ _ _ _ _ _ _ _ _ _ _ _ _ _ _ _ _ _ _ _ _ _ _ _ _ _ _ _ _ _ _ _ _ _ _ _ _ _ _ _ _ _ _ _ _ _ _ _ _ _ _ _ _ _ _ _ _ _ _ _ _ _ _ _ _ _ _ _ _ _ _ _ _ _ _ _ _ _ _ _ _ _ _ _ _ _ _ _ _ _ _ _ _ _
  have hfin := Lib.hid (walk_end Z0 n w W1 W' sp sv (.func (.func 48) #[] #[ptr br, ptr bt]) T B B0 h0 pb off wb tb' t dov who val nv Ak ck key vw want ks br bt rv tv rvals ds hT' hMw1.out ⟨hs, hs1⟩ hh)
  have cb := hT'.cy.br.cell
  have cf := hT'.cy.br.frozen
  clear hT' hT hMw1 hW1
  unfold fw41
  gi_wp2
  rw [hQQ.out]
  exact hfin.out _ _ _ _ _ _ _ _ _ _ _ _ _ _ _ _ _ _ _ _ _ _ _ _ _ _ _ _ _ _ _ _ _ _ _ _ _ _ _ _ _ _ _ _ _ _ _ _ _ _ _ _ _ _ _ _ _ _ _ _ _ _ _ _ _ _ _ _ _ _ _ _ _ _ _ _ _ _ _ _ _ _ _ _ _ _ _ _ _ _ _ _ _ _ _ _ _ _ _ _ _ _ _ _ _ _ _ _ _ _ _ _ _ _ _ _ _ _ _ _ _
end Go.Proofs.Ytioflglfnalcaaa

/- TriePlays: walked, whole. -/
namespace Go.Proofs.Ytioflglfnalcaaa
open Go.RowKit

attribute [local go_sem] Oper.semAt_some

theorem belowR_len (L : List RowT) (key : List Int) : (belowR L key).length ≤ L.length := List.length_filter_le _ _
theorem belowR_mem {L : List RowT} {key : List Int} {x : RowT} (h : x ∈ belowR L key) : x ∈ L := (List.mem_filter.1 h).1

set_option maxHeartbeats 4000000 in
set_option maxRecDepth 100000 in
theorem walked_i (Z0 : Nat → Prop) (w : World) (B0 pb off t : Nat) (T : AT) (v : Value) (L : List RowT) (ks : List (List Int)) (dov who val nv : Int) (Ak : Option Addr) (ck : Nat) (key : List Int)
    (hP : Pq Z0 w pb off t T v L L ks) (hTi : ∀ j, T.own j → B0 ≤ j) (hB0 : B0 ≤ pb) (hkey : key ∈ ks) (hrk : RdI w Ak key) (hlk : ∀ ad, Ak = some ad → key ≠ [] → ad.block < B0) (hkn : Ak = none → ck = 0) :
    Calls Try.prog 41 #[.pointer (some ⟨pb, off, none⟩), .agg #[.int .i64 dov, .int .i64 who, .slice Ak key.length ck, .int .i64 val, .int .i64 nv]] w (WalkP Z0 w pb off t T ks) := by
  have hkl := hP.tri.ksl _ hkey
  have hLl := hP.tri.len
  have hpb := hP.lt
  obtain ⟨Av, cv, rfl⟩ := hP.ref.form
  obtain ⟨w0, hw0⟩ : ∃ w0, w0 = ((w.alloc (.cells #[.pointer (some ⟨pb, off, none⟩)] 35)).alloc (.cells #[.int .i64 dov, .int .i64 who, .slice Ak key.length ck, .int .i64 val, .int .i64 nv] 38)).alloc (.cells #[.bool false] 4) := ⟨_, rfl⟩
  have hb0 : Below w.heap.size w w0 := by rw [hw0]; exact (((Below.refl _ _).alloc (Nat.le_refl _) _).alloc (by simp) _).alloc (by simp; omega) _
  have hz0 : w0.heap.size = w.heap.size + 3 := by rw [hw0]; simp
  have bp0 : Boxed w0 w.heap.size 35 (.pointer (some ⟨pb, off, none⟩)) := by
    rw [hw0]; exact heap_alloc_old2 (heap_alloc_old2 (heap_alloc_eq w _))
  have bs0 : w0.heap[w.heap.size + 1]? = some (.cells #[.int .i64 dov, .int .i64 who, .slice Ak key.length ck, .int .i64 val, .int .i64 nv] 38 (0, 0)) := by
    have := heap_alloc_eq (w.alloc (.cells #[.pointer (some ⟨pb, off, none⟩)] 35)) (.cells #[.int .i64 dov, .int .i64 who, .slice Ak key.length ck, .int .i64 val, .int .i64 nv] 38)
    rw [hw0]; exact heap_alloc_old2 (by simpa using this)
  have bb0 : Boxed w0 (w.heap.size + 2) 4 (.bool false) := by
    have := heap_alloc_eq ((w.alloc (.cells #[.pointer (some ⟨pb, off, none⟩)] 35)).alloc (.cells #[.int .i64 dov, .int .i64 who, .slice Ak key.length ck, .int .i64 val, .int .i64 nv] 38)) (.cells #[.bool false] 4)
    rw [hw0]; simpa [Boxed] using this
  obtain ⟨w1, hw1⟩ : ∃ w1, w1 = w0.alloc (.cells #[.slice Av L.length cv] 25) := ⟨_, rfl⟩
  have hb1 : Below w0.heap.size w0 w1 := by rw [hw1]; exact (Below.refl _ _).alloc (Nat.le_refl _) _
  have bw1 : Boxed w1 w0.heap.size 25 (.slice Av L.length cv) := by rw [hw1]; exact heap_alloc_eq _ _
  have hb01 : Below w.heap.size w w1 := hb0.trans (hb1.mono (by omega))
  have hP1 := hP.new hb01
  have hM1 := (Mv.refl hP).new hpb hb01
  have bp1 := boxed_new bp0 hb1
  have bs1 := (hb1.block _ (lt_of_heap bs0)).trans bs0
  have bb1 := boxed_new bb0 hb1
  have hrk1 := rdI_below hrk hb01
  have hall := Lib.hid (tri_all hP1.tri)
  have hcp0 : w0.cell? ⟨pb, off + 1, none⟩ = some (.slice Av L.length cv) := (hb0.cell (p := ⟨pb, off + 1, none⟩) (cell_lt hP.c1)).trans hP.c1
  have hct1 := hP1.c0
  have hcb0 := bp0.cell
  have hcb1 := bp1.cell
  have hcpE := hcp0
  rw [hw0] at hcpE
  have hctE := hct1
  rw [hw1, hw0] at hctE
  have hsE : w.heap.size + 1 + 1 = w.heap.size + 2 := rfl
  replace hw0 := Lib.hid hw0
  replace hw1 := Lib.hid hw1
  replace hz0 := Lib.hid hz0
  have HP := Lib.hid hP
  have HP1 := Lib.hid hP1
  have HM1 := Lib.hid hM1
  replace bp1 := Lib.hid bp1
  replace bs1 := Lib.hid bs1
  replace bb1 := Lib.hid bb1
  replace bw1 := Lib.hid bw1
  have hrk1 := Lib.hid hrk1
  have hlk' := Lib.hid hlk
  have hkn' := Lib.hid hkn
  have hTi' := Lib.hid hTi
  clear hb0 hb1 hb01 hP hP1 hM1 bp0 bs0 bb0 hrk hlk hkn hTi
  obtain ⟨n, -⟩ : ∃ n : Nat, True := ⟨0, trivial⟩
  refine (callsIn_wide (n := n)).1 ?_
  refine callsIn_of_wp_marks Try.func41 rfl trivial ?_ rfl
  simp only [Try.ntmps41, List.size_toArray, List.length_cons, List.length_nil, Nat.reduceAdd, Nat.reduceSub, Array.replicate_succ, Array.replicate_zero, List.push_toArray, List.append_toArray, List.nil_append, List.cons_append]
  obtain ⟨QQ, hQQ⟩ : ∃ QQ, QQ = bodyPostM Fence.wide n Try.prog Try.f41 (WalkP Z0 w pb off t T ks) := ⟨_, rfl⟩
  rw [← hQQ]
  replace hQQ := Lib.hid hQQ
  gi_wp2_with fail
  rw [← hw0.out, ← hw1.out]
  refine callR hall.out ?_
  rintro e w2 ⟨br, bt, rv, tv, rvals, rfl, hC2, hb2⟩
  have hP2 := HP1.out.new hb2
  have hM2 := HM1.out.new hpb hb2
  have bp2 := boxed_new bp1.out hb2
  have bs2 := (hb2.block _ (lt_of_heap bs1.out)).trans bs1.out
  have bb2 := boxed_new bb1.out hb2
  have bw2 := boxed_new bw1.out hb2
  have hrk2 := rdI_below hrk1.out hb2
  have hcp2 := bp2.cell
  have hct2 := hP2.c0
  have hct3 := hP2.c1
  replace hC2 := Lib.hid hC2
  have cs0 : w2.cell? ⟨w.heap.size + 1, 0, none⟩ = some (.int .i64 dov) := by simp [World.cell?, bs2]
  have hz2 := hM2.fr.size
  have hlen : ∀ x ∈ L, x.1.length ≤ 35184372087808 := hP2.tri.lens
  have hz02 : w.heap.size + 4 ≤ w2.heap.size := by
    have h1 := hb2.size
    have h2 := bw1.out.lt
    have h3 := hz0.out
    omega
  rw [hz0.out] at bw2
  have hsE2 : w.heap.size + 2 + 1 = w.heap.size + 3 := rfl
  rw [hsE2]
  clear hsE2 hsE hw0 hw1 HP HP1 HM1 bp1 bs1 bb1 bw1 hrk1 hall hcp0 hct1 hcb0 hcb1 hb2 hz0 hcpE hctE
  generalize hwb : w.heap.size + 3 = wb at *
  generalize hh0 : w.heap.size = h0 at *
  replace hP2 := Lib.hid hP2
  replace hM2 := Lib.hid hM2
  replace bp2 := Lib.hid bp2
  replace bs2 := Lib.hid bs2
  replace bb2 := Lib.hid bb2
  replace bw2 := Lib.hid bw2
  replace hrk2 := Lib.hid hrk2
  replace hlen := Lib.hid hlen
  replace hh0 := Lib.hid hh0
  replace hwb := Lib.hid hwb
  by_cases hd : dov = 5
  · subst hd
    have hrb : Hid (Calls Try.prog 58 #[.agg #[.slice Av L.length cv], .slice Ak key.length ck] w2.drew (fun e w' => ∃ u, e = .returned u ∧ RefIs AnyZ w' u (belowR L key) ∧ Below w2.heap.size w2 w')) :=
      Lib.hid ((rbelow_i w2.drew AnyZ (.slice Av L.length cv) L Ak ck key hP2.out.any.ref (by omega) hlen.out hrk2.out hkl).mono fun e w' ⟨u, h1, h2, h3⟩ => ⟨u, h1, h2.mono fun _ _ _ => trivial, ((Below.refl w2.heap.size w2).drew).trans h3⟩)
    gi_upto_region 4 with fail
    refine g4_i n _ w2 _ _ h0 wb pb off ck 5 who val nv Ak key (.agg #[.slice Av L.length cv]) (fun u w' => RefIs AnyZ w' u (belowR L key) ∧ Below w2.heap.size w2 w') hcp2 bs2.out Av L.length cv hct3 hrb.out (fun u w' ⟨h1, h2⟩ => ?hst) _ _ _ _ _ _ _ _ _ _ _ _ _ _ _ _ _ _ _ _ _ _ _ _ _ _ _ _ _ _ _ _ _ _ _ _ _ _ _ _ _ _ _ _ _ _ _ _ _ _ _ _ _ _ _ _ _ _ _ _ _ _ _ _ _ _ _ _ _ _ _ _ _ _ _ _ _ _ _ _ _ _ _ _ _ _ _ _ _ _ _ _ _ _ _ _ _ _ _ _ _ _ _ _ _ _ _ _ _ _ _ _ _ _ _ _ _ _ _ _ _ _ _ ?_
    case hst =>
      obtain ⟨A', c', rfl⟩ := h1.form
      have hb := boxed_new bw2.out h2
      exact ⟨⟨_, _, _, rfl⟩, ⟨_, hb.cell⟩, hb.frozen⟩
    rintro u w3 ⟨hr3, hb3⟩
    intro _ _ _ _ _ _ _
    have hF4 : Fr (fun j => j = wb) w3 (w3.setCell ⟨wb, 0, none⟩ u) := (Fr.refl (fun j => j = wb) w3).setCell (p := ⟨wb, 0, none⟩) (.inl rfl) _
    obtain ⟨w4, hw4⟩ : ∃ w4, w4 = w3.setCell ⟨wb, 0, none⟩ u := ⟨_, rfl⟩
    rw [← hw4] at hF4 ⊢
    have bw3 := boxed_new bw2.out hb3
    have hP3 := hP2.out.new hb3
    have hpbw : pb < w.heap.size := by rw [hh0.out]; exact hpb
    have hM3 := hM2.out.new hpbw hb3
    have hM4 := hM3.free hpbw hF4 fun j e => by have := hwb.out; have := hh0.out; omega
    have hno : ∀ c ty f, w3.heap[wb]? = some (.cells c ty f) → ty = 25 := fun c ty f hc => by rw [bw3] at hc; injection hc with hc; injection hc with _ hc; exact hc.symm
    have hP4 : Pq Z0 w4 pb off t T (.slice Av L.length cv) L L ks := hP3.frame hF4 (fun j hj e => by
      subst e
      rcases hP3.tri.ty hj bw3 with h | h <;> cases h) (fun e => by have := hwb.out; omega) fun j c ty f e hj ht _ => by
      subst e
      have := hno _ _ _ hj
      subst this
      rcases ht with h | h <;> cases h
    have hr4 : RefIs AnyZ w4 u (belowR L key) := hr3.frame hF4 fun j c ty f e hj ht _ => by
      subst e
      have := hno _ _ _ hj
      subst this
      rcases ht with h | h <;> cases h
    have hne : ∀ k, k < wb → ¬ k = wb := fun k h e => by omega
    have hwbl := hwb.out
    have bp4 : Boxed w4 h0 35 (.pointer (some ⟨pb, off, none⟩)) := hF4.heap (boxed_new bp2.out hb3) (hne _ (by omega))
    have bs4 := hF4.heap ((hb3.block _ (lt_of_heap bs2.out)).trans bs2.out) (hne _ (by omega))
    have bb4 : Boxed w4 (h0 + 2) 4 (.bool false) := hF4.heap (boxed_new bb2.out hb3) (hne _ (by omega))
    have bw4 : Boxed w4 wb 25 u := by rw [hw4]; exact bw3.set _
    have hrk4 : RdI w4 Ak key := (rdI_below hrk2.out hb3).frame hF4 fun ad e hne' e2 => by
      have h1 := hlk'.out ad e hne'
      have h2 := hwb.out
      omega
    have hbel : Hid (Calls Try.prog 13 #[ptr t, .slice Ak key.length ck] w4.drew (fun e w' => ∃ u, e = .returned u ∧ BelowPost 43 64 3 48 w4 (outs (belowR L key)) (.returned u) w')) := Lib.hid (by
      have hTd : TrI w4.drew t T L ks := hP4.tri.fr (Fr.refl Nob w4).drew
      refine (tri_below hTd Ak ck key hrk4 hkn'.out hkl).mono ?_
      rintro e w' ⟨br', bt', rv', tv', rvals', rfl, h2, h3⟩
      exact ⟨_, rfl, br', bt', rv', tv', rvals', rfl, h2, ((Below.refl w4.heap.size w4).drew).trans h3⟩)
    replace hP4 := Lib.hid hP4
    replace hM4 := Lib.hid hM4
    have hct4 := hP4.out.c0
    have hcp4 := bp4.cell
    replace bp4 := Lib.hid bp4
    have bs4' := Lib.hid bs4
    replace bb4 := Lib.hid bb4
    replace bw4 := Lib.hid bw4
    replace hr4 := Lib.hid hr4
    replace hrk4 := Lib.hid hrk4
    have hz4 := hM4.out.fr.size
    clear hF4 hw4 bw3 hP3 hM3 hno hr3 hb3 hne bs4 hrb hP2 hM2 bp2 bs2 bb2 bw2 hrk2 hcp2 hct2 hct3 cs0
    gi_upto_region 5 with fail
    refine g5_i n _ w4 _ _ h0 wb pb off ck 5 who val nv Ak key (ptr t) (fun u w' => BelowPost 43 64 3 48 w4 (outs (belowR L key)) (.returned u) w') hcp4 bs4'.out t hct4 hbel.out _ _ _ _ _ _ _ _ _ _ _ _ _ _ _ _ _ _ _ _ _ _ _ _ _ _ _ _ _ _ _ _ _ _ _ _ _ _ _ _ _ _ _ _ _ _ _ _ _ _ _ _ _ _ _ _ _ _ _ _ _ _ _ _ _ _ _ _ _ _ _ _ _ _ _ _ _ _ _ _ _ _ _ _ _ _ _ _ _ _ _ _ _ _ _ _ _ _ _ _ _ _ _ _ _ _ _ _ _ _ _ _ _ _ _ _ _ _ _ _ _ _ _ ?_
    rintro u5 w5 ⟨br5, bt5, rv5, tv5, rvals5, he5, hC5, hb5⟩
    injection he5 with he5
    subst he5
    intro _ _ _ _ _ _ _
    have hP5 := hP4.out.new hb5
    gi_step
    gi_step
    rw [hQQ.out]
    refine wr41_i Z0 n w w5 _ _ _ B0 h0 pb off wb t 5 who val nv Ak ck key u (belowR L key) ks br5 bt5 rv5 tv5 rvals5 T (.slice Av L.length cv) L (hP5.mono fun j _ h => .inl h) (hM4.out.new hpbw hb5) (boxed_new bp4.out hb5) ((hb5.block _ (lt_of_heap bs4'.out)).trans bs4'.out) (boxed_new bb4.out hb5) (boxed_new bw4.out hb5) (hr4.out.new hb5) (rdI_below hrk4.out hb5) hlk'.out hC5 hTi'.out hB0 (by have := hh0.out; omega) (by have := hh0.out; omega) (fun x hx => hlen.out x (belowR_mem hx)) (Nat.le_trans (belowR_len L key) hLl) hkey _ _ _ _ _ _ _ _ _ _ _ _ _ _ _ _ _ _ _ _ _ _ _ _ _ _ _ _ _ _ _ _ _ _ _ _ _ _ _ _ _ _ _ _ _ _ _ _ _ _ _ _ _ _ _ _ _ _ _ _ _ _ _ _ _ _ _ _ _ _ _ _ _ _ _ _ _ _ _ _ _ _ _ _ _ _ _ _ _ _ _ _ _ _ _ _ _ _ _ _ _ _ _ _ _ _ _ _ _ _ _ _ _ _ _ _ _ _ _ _ _ _
  · have hd2 : (dov == 5) = false := by simp [hd]
    have hd3 : decide (dov = 5) = false := by simp [hd]
    gi_upto_if 25 with fail
    gi_step
    gi_step
    gi_step
    gi_step
    rw [hQQ.out]
    refine wr41_i Z0 n w w2 _ _ _ B0 h0 pb off wb t dov who val nv Ak ck key _ L ks br bt rv tv rvals T (.slice Av L.length cv) L (hP2.out.mono fun j _ h => .inl h) hM2.out bp2.out bs2.out bb2.out bw2.out hP2.out.any.ref hrk2.out hlk'.out hC2.out hTi'.out hB0 (by have := hh0.out; omega) (by have := hh0.out; omega) hlen.out hLl hkey _ _ _ _ _ _ _ _ _ _ _ _ _ _ _ _ _ _ _ _ _ _ _ _ _ _ _ _ _ _ _ _ _ _ _ _ _ _ _ _ _ _ _ _ _ _ _ _ _ _ _ _ _ _ _ _ _ _ _ _ _ _ _ _ _ _ _ _ _ _ _ _ _ _ _ _ _ _ _ _ _ _ _ _ _ _ _ _ _ _ _ _ _ _ _ _ _ _ _ _ _ _ _ _ _ _ _ _ _ _ _ _ _ _ _ _ _ _ _ _ _ _
end Go.Proofs.Ytioflglfnalcaaa

/- TriePlays: what step does in regions that draw their order: printed by gen_ps.py. -/
namespace Go.Proofs.Ytioflglfnalcaaa
open Go.RowKit

attribute [local go_sem] Oper.semAt_some

def fs11 (pb off : Nat) (sv s2 : Value) (h0 : Nat) (s4 xs : Value) (y6 y7 y8 y9 y10 y11 y12 y13 y14 y15 y16 y17 y18 y19 y20 y21 y22 y23 y24 y25 y26 y27 y28 y29 y30 y31 y32 y33 y34 y35 y36 y37 y38 y39 y40 y41 y42 y43 y44 y45 y46 y47 y48 y49 y50 y51 y52 y53 y54 y55 y56 y57 y58 y59 y60 y61 y62 y63 y64 y65 y66 y67 y68 y69 y70 y71 y72 y73 y74 y75 y76 y77 y78 y79 y80 y81 y82 y83 y84 y85 y86 y87 y88 y89 y90 y91 y92 y93 y94 y95 y96 y97 y98 y99 y100 y101 y102 y103 y104 y105 y106 y107 y108 y109 y110 y111 y112 y113 y114 y115 y116 y117 y118 y119 y120 y121 y122 y123 y124 y125 y126 y127 y128 y129 y130 y131 y132 y133 y134 y135 y136 y137 y138 y139 y140 y141 y142 y143 y144 y145 y146 y147 y148 y149 y150 y151 y152 y153 y154 y155 y156 y157 y158 y159 y160 y161 y162 y163 y164 y165 y166 y167 y168 y169 y170 y171 y172 y173 y174 y175 y176 y177 y178 y179 : Value) : Act :=
  { tmps := #[.pointer (some ⟨pb, off, none⟩), sv, s2, .pointer (some ⟨h0, 0, none⟩), s4, xs, y6, y7, y8, y9, y10, y11, y12, y13, y14, y15, y16, y17, y18, y19, y20, y21, y22, y23, y24, y25, y26, y27, y28, y29, y30, y31, y32, y33, y34, y35, y36, y37, y38, y39, y40, y41, y42, y43, y44, y45, y46, y47, y48, y49, y50, y51, y52, y53, y54, y55, y56, y57, y58, y59, y60, y61, y62, y63, y64, y65, y66, y67, y68, y69, y70, y71, y72, y73, y74, y75, y76, y77, y78, y79, y80, y81, y82, y83, y84, y85, y86, y87, y88, y89, y90, y91, y92, y93, y94, y95, y96, y97, y98, y99, y100, y101, y102, y103, y104, y105, y106, y107, y108, y109, y110, y111, y112, y113, y114, y115, y116, y117, y118, y119, y120, y121, y122, y123, y124, y125, y126, y127, y128, y129, y130, y131, y132, y133, y134, y135, y136, y137, y138, y139, y140, y141, y142, y143, y144, y145, y146, y147, y148, y149, y150, y151, y152, y153, y154, y155, y156, y157, y158, y159, y160, y161, y162, y163, y164, y165, y166, y167, y168, y169, y170, y171, y172, y173, y174, y175, y176, y177, y178, y179], defers := [] }

noncomputable def sw11 : Code := bkB (sqS (sqF (sqS (sqS (sqS (bodyOf Try.f11))))))
def cdE : Code → Code
  | .cond _ _ b => b
  | c => c
noncomputable def sx1 : Code := cdE (sqS sw11)
noncomputable def sx2 : Code := cdE (sqS sx1)
noncomputable def sx3 : Code := cdE (sqS sx2)
noncomputable def s5 : Code := sqF (cdT (sqS sw11))
noncomputable def s7 : Code := sqS (sqS (cdT (sqS sw11)))
noncomputable def s9 : Code := sqF (cdT (sqS sx1))
noncomputable def s13 : Code := sqF (cdT (sqS sx2))
noncomputable def s17 : Code := sqF (cdT (sqS sx3))
structure Rs7 (pb off h0 ck t cx : Nat) (Ak Ax : Option Addr) (key : List Int) (xs : Value) (val : Int) (b was : Bool) (L : Nat → Bool) (x45 x46 x47 x48 x49 x50 x51 x52 x53 x54 x6 : Value) : Prop where
  e0 : L 0 = true → x45 = .pointer (some ⟨pb, off, none⟩)
  e1 : L 1 = true → x46 = .pointer (some ⟨pb, off, none⟩)
  e2 : L 2 = true → x47 = .pointer (some ⟨pb, off, none⟩)
  e3 : L 3 = true → x48 = ptr t
  e4 : L 4 = true → x49 = xs
  e5 : L 5 = true → x50 = .pointer (some ⟨h0, 3, none⟩)
  e6 : L 6 = true → x51 = .int .i64 val
  e7 : L 7 = true → x52 = .bool b
  e8 : L 8 = true → x53 = .bool was
  e9 : L 9 = true → x54 = .bool (b == was)
  e10 : L 10 = true → x6 = .bool (b == was)
def Js7 (sv s2 s4 : Value) (y7 y9 y10 y11 y12 y13 y14 y15 y16 y17 y18 y19 y20 y21 y22 y23 y24 y25 y26 y27 y28 y29 y30 y31 y32 y33 y34 y35 y36 y37 y38 y39 y40 y41 y42 y43 y44 y55 y56 y57 y58 y59 y60 y61 y62 y63 y64 y65 y66 y67 y68 y69 y70 y71 y72 y73 y74 y75 y76 y77 y78 y79 y80 y81 y82 y83 y84 y85 y86 y87 y88 y89 y90 y91 y92 y93 y94 y95 y96 y97 y98 y99 y100 y101 y102 y103 y104 y105 y106 y107 y108 y109 y110 y111 y112 y113 y114 y115 y116 y117 y118 y119 y120 y121 y122 y123 y124 y125 y126 y127 y128 y129 y130 y131 y132 y133 y134 y135 y136 y137 y138 y139 y140 y141 y142 y143 y144 y145 y146 y147 y148 y149 y150 y151 y152 y153 y154 y155 y156 y157 y158 y159 y160 y161 y162 y163 y164 y165 y166 y167 y168 y169 y170 y171 y172 y173 y174 y175 y176 y177 y178 y179 : Value) (pb off h0 ck t cx : Nat) (Ak Ax : Option Addr) (key : List Int) (xs : Value) (val : Int) (b was : Bool) (W : World) (Post : World → Prop) (L : Nat → Bool) (a : Act) (w : World) : Prop :=
  ∃ x45 x46 x47 x48 x49 x50 x51 x52 x53 x54 x6, a = (fs11 pb off sv s2 h0 s4 xs x6 y7 (.bool was) y9 y10 y11 y12 y13 y14 y15 y16 y17 y18 y19 y20 y21 y22 y23 y24 y25 y26 y27 y28 y29 y30 y31 y32 y33 y34 y35 y36 y37 y38 y39 y40 y41 y42 y43 y44 x45 x46 x47 x48 x49 x50 x51 x52 x53 x54 y55 y56 y57 y58 y59 y60 y61 y62 y63 y64 y65 y66 y67 y68 y69 y70 y71 y72 y73 y74 y75 y76 y77 y78 y79 y80 y81 y82 y83 y84 y85 y86 y87 y88 y89 y90 y91 y92 y93 y94 y95 y96 y97 y98 y99 y100 y101 y102 y103 y104 y105 y106 y107 y108 y109 y110 y111 y112 y113 y114 y115 y116 y117 y118 y119 y120 y121 y122 y123 y124 y125 y126 y127 y128 y129 y130 y131 y132 y133 y134 y135 y136 y137 y138 y139 y140 y141 y142 y143 y144 y145 y146 y147 y148 y149 y150 y151 y152 y153 y154 y155 y156 y157 y158 y159 y160 y161 y162 y163 y164 y165 y166 y167 y168 y169 y170 y171 y172 y173 y174 y175 y176 y177 y178 y179) ∧ (L 7 = false → w = W.drew) ∧ (L 7 = true → Post w) ∧ Rs7 pb off h0 ck t cx Ak Ax key xs val b was L x45 x46 x47 x48 x49 x50 x51 x52 x53 x54 x6

set_option maxHeartbeats 2000000 in
set_option maxRecDepth 100000 in
theorem s7_i (n : Nat) (Q : Exit → Act → World → Prop) (W : World) (sv s2 s4 : Value) (pb off h0 ck t cx : Nat) (Ak Ax : Option Addr) (key : List Int) (xs : Value) (val : Int) (b was : Bool) (Post : World → Prop) (hct : W.cell? ⟨pb, off, none⟩ = some (ptr t)) (hcv : W.cell? ⟨h0, 3, none⟩ = some (.int .i64 val)) 
    (hcall : Calls Try.prog 14 #[ptr t, xs, .int .i64 val] W.drew (fun e w' => e = .returned (.bool b) ∧ Post w')) (y6 y7 y9 y10 y11 y12 y13 y14 y15 y16 y17 y18 y19 y20 y21 y22 y23 y24 y25 y26 y27 y28 y29 y30 y31 y32 y33 y34 y35 y36 y37 y38 y39 y40 y41 y42 y43 y44 y45 y46 y47 y48 y49 y50 y51 y52 y53 y54 y55 y56 y57 y58 y59 y60 y61 y62 y63 y64 y65 y66 y67 y68 y69 y70 y71 y72 y73 y74 y75 y76 y77 y78 y79 y80 y81 y82 y83 y84 y85 y86 y87 y88 y89 y90 y91 y92 y93 y94 y95 y96 y97 y98 y99 y100 y101 y102 y103 y104 y105 y106 y107 y108 y109 y110 y111 y112 y113 y114 y115 y116 y117 y118 y119 y120 y121 y122 y123 y124 y125 y126 y127 y128 y129 y130 y131 y132 y133 y134 y135 y136 y137 y138 y139 y140 y141 y142 y143 y144 y145 y146 y147 y148 y149 y150 y151 y152 y153 y154 y155 y156 y157 y158 y159 y160 y161 y162 y163 y164 y165 y166 y167 y168 y169 y170 y171 y172 y173 y174 y175 y176 y177 y178 y179 : Value)
    (hQ : ∀ w', Post w' → ∀ x45 x46 x47 x48 x49 x50 x51 x52 x53 x54, Q .normal (fs11 pb off sv s2 h0 s4 xs (.bool (b == was)) y7 (.bool was) y9 y10 y11 y12 y13 y14 y15 y16 y17 y18 y19 y20 y21 y22 y23 y24 y25 y26 y27 y28 y29 y30 y31 y32 y33 y34 y35 y36 y37 y38 y39 y40 y41 y42 y43 y44 x45 x46 x47 x48 x49 x50 x51 x52 x53 x54 y55 y56 y57 y58 y59 y60 y61 y62 y63 y64 y65 y66 y67 y68 y69 y70 y71 y72 y73 y74 y75 y76 y77 y78 y79 y80 y81 y82 y83 y84 y85 y86 y87 y88 y89 y90 y91 y92 y93 y94 y95 y96 y97 y98 y99 y100 y101 y102 y103 y104 y105 y106 y107 y108 y109 y110 y111 y112 y113 y114 y115 y116 y117 y118 y119 y120 y121 y122 y123 y124 y125 y126 y127 y128 y129 y130 y131 y132 y133 y134 y135 y136 y137 y138 y139 y140 y141 y142 y143 y144 y145 y146 y147 y148 y149 y150 y151 y152 y153 y154 y155 y156 y157 y158 y159 y160 y161 y162 y163 y164 y165 y166 y167 y168 y169 y170 y171 y172 y173 y174 y175 y176 y177 y178 y179) w') : s7.wpIn Fence.wide n Try.prog Q (fs11 pb off sv s2 h0 s4 xs y6 y7 (.bool was) y9 y10 y11 y12 y13 y14 y15 y16 y17 y18 y19 y20 y21 y22 y23 y24 y25 y26 y27 y28 y29 y30 y31 y32 y33 y34 y35 y36 y37 y38 y39 y40 y41 y42 y43 y44 y45 y46 y47 y48 y49 y50 y51 y52 y53 y54 y55 y56 y57 y58 y59 y60 y61 y62 y63 y64 y65 y66 y67 y68 y69 y70 y71 y72 y73 y74 y75 y76 y77 y78 y79 y80 y81 y82 y83 y84 y85 y86 y87 y88 y89 y90 y91 y92 y93 y94 y95 y96 y97 y98 y99 y100 y101 y102 y103 y104 y105 y106 y107 y108 y109 y110 y111 y112 y113 y114 y115 y116 y117 y118 y119 y120 y121 y122 y123 y124 y125 y126 y127 y128 y129 y130 y131 y132 y133 y134 y135 y136 y137 y138 y139 y140 y141 y142 y143 y144 y145 y146 y147 y148 y149 y150 y151 y152 y153 y154 y155 y156 y157 y158 y159 y160 y161 y162 y163 y164 y165 y166 y167 y168 y169 y170 y171 y172 y173 y174 y175 y176 y177 y178 y179) W := by
  have Hcall := Lib.hid hcall
  have HQ := Lib.hid hQ
  clear hcall hQ
  unfold s7 sw11 fs11
  dsimp only [Try.f11, bodyOf, sqF, sqS, cdT, cdE, bkB, lpB, rfB]
  refine wpIn_region_closed (by kernel_rfl) (by kernel_rfl) (Js7 sv s2 s4 y7 y9 y10 y11 y12 y13 y14 y15 y16 y17 y18 y19 y20 y21 y22 y23 y24 y25 y26 y27 y28 y29 y30 y31 y32 y33 y34 y35 y36 y37 y38 y39 y40 y41 y42 y43 y44 y55 y56 y57 y58 y59 y60 y61 y62 y63 y64 y65 y66 y67 y68 y69 y70 y71 y72 y73 y74 y75 y76 y77 y78 y79 y80 y81 y82 y83 y84 y85 y86 y87 y88 y89 y90 y91 y92 y93 y94 y95 y96 y97 y98 y99 y100 y101 y102 y103 y104 y105 y106 y107 y108 y109 y110 y111 y112 y113 y114 y115 y116 y117 y118 y119 y120 y121 y122 y123 y124 y125 y126 y127 y128 y129 y130 y131 y132 y133 y134 y135 y136 y137 y138 y139 y140 y141 y142 y143 y144 y145 y146 y147 y148 y149 y150 y151 y152 y153 y154 y155 y156 y157 y158 y159 y160 y161 y162 y163 y164 y165 y166 y167 y168 y169 y170 y171 y172 y173 y174 y175 y176 y177 y178 y179 pb off h0 ck t cx Ak Ax key xs val b was W Post) ?_ ?_ ?_
  · exact ⟨y45, y46, y47, y48, y49, y50, y51, y52, y53, y54, y6, rfl, fun _ => rfl, (nomatch ·), ⟨(nomatch ·), (nomatch ·), (nomatch ·), (nomatch ·), (nomatch ·), (nomatch ·), (nomatch ·), (nomatch ·), (nomatch ·), (nomatch ·), (nomatch ·)⟩⟩
  · intro i o L a w1 ho hL hpre hcl hJJ
    have hi : i < 11 := by
      rcases Nat.lt_or_ge i 11 with h | h
      · exact h
      · rw [Array.getElem?_eq_none (by simpa using h)] at ho; cases ho
    obtain ⟨x45, x46, x47, x48, x49, x50, x51, x52, x53, x54, x6, rfl, hJ1, hJ2, hR⟩ := hJJ
    have HR := Lib.hid hR
    have a3 : L 7 = true → L 3 = true := fun h => hcl 7 _ rfl h ⟨3, .data⟩ (by simp) rfl
    have a4 : L 7 = true → L 4 = true := fun h => hcl 7 _ rfl h ⟨4, .data⟩ (by simp) rfl
    have a6 : L 7 = true → L 6 = true := fun h => hcl 7 _ rfl h ⟨6, .data⟩ (by simp) rfl
    have a2 : L 7 = true → L 2 = true := fun h => hcl 3 _ rfl (a3 h) ⟨2, .data⟩ (by simp) rfl
    have a5 : L 7 = true → L 5 = true := fun h => hcl 6 _ rfl (a6 h) ⟨5, .data⟩ (by simp) rfl
    have a1 : L 7 = true → L 1 = true := fun h => hcl 2 _ rfl (a2 h) ⟨1, .data⟩ (by simp) rfl
    have a0 : L 7 = true → L 0 = true := fun h => hcl 1 _ rfl (a1 h) ⟨0, .data⟩ (by simp) rfl
    have c9 : L 9 = true → L 7 = true := fun h => hcl 9 _ rfl h ⟨7, .data⟩ (by simp) rfl
    have c10 : L 10 = true → L 7 = true := fun h => c9 (hcl 10 _ rfl h ⟨9, .data⟩ (by simp) rfl)
    replace a3 := Lib.hid a3
    replace a4 := Lib.hid a4
    replace a6 := Lib.hid a6
    replace a2 := Lib.hid a2
    replace a5 := Lib.hid a5
    replace a1 := Lib.hid a1
    replace a0 := Lib.hid a0
    replace c9 := Lib.hid c9
    replace c10 := Lib.hid c10
    rcases (by omega : i = 0 ∨ i = 1 ∨ i = 2 ∨ i = 3 ∨ i = 4 ∨ i = 5 ∨ i = 6 ∨ i = 7 ∨ i = 8 ∨ i = 9 ∨ i = 10) with rfl | rfl | rfl | rfl | rfl | rfl | rfl | rfl | rfl | rfl | rfl
    · cases ho
      have hc0 : L 7 = false := by
        cases h : L 7 with
        | false => rfl
        | true => rw [a0.out h] at hL; cases hL
      obtain rfl := hJ1 hc0
      clear hR hpre hcl hJ1 hJ2
      unfold StepIn fs11
      go_simp
      exact ⟨_, _, _, _, _, _, _, _, _, _, _, rfl, (fun _ => rfl), (fun h => absurd (show L 7 = true from h) (by rw [hc0]; decide)), { HR.out with e0 := fun _ => rfl }⟩
    · cases ho
      have hc0 : L 7 = false := by
        cases h : L 7 with
        | false => rfl
        | true => rw [a1.out h] at hL; cases hL
      obtain rfl := hJ1 hc0
      obtain rfl := hR.e0 (hpre ⟨0, .data⟩ (by simp) rfl)
      clear hR hpre hcl hJ1 hJ2
      unfold StepIn fs11
      go_simp
      exact ⟨_, _, _, _, _, _, _, _, _, _, _, rfl, (fun _ => rfl), (fun h => absurd (show L 7 = true from h) (by rw [hc0]; decide)), { HR.out with e1 := fun _ => rfl }⟩
    · cases ho
      have hc0 : L 7 = false := by
        cases h : L 7 with
        | false => rfl
        | true => rw [a2.out h] at hL; cases hL
      obtain rfl := hJ1 hc0
      obtain rfl := hR.e1 (hpre ⟨1, .data⟩ (by simp) rfl)
      clear hR hpre hcl hJ1 hJ2
      unfold StepIn fs11
      go_simp
      exact ⟨_, _, _, _, _, _, _, _, _, _, _, rfl, (fun _ => rfl), (fun h => absurd (show L 7 = true from h) (by rw [hc0]; decide)), { HR.out with e2 := fun _ => rfl }⟩
    · cases ho
      have hc0 : L 7 = false := by
        cases h : L 7 with
        | false => rfl
        | true => rw [a3.out h] at hL; cases hL
      obtain rfl := hJ1 hc0
      obtain rfl := hR.e2 (hpre ⟨2, .data⟩ (by simp) rfl)
      clear hR hpre hcl hJ1 hJ2
      unfold StepIn fs11
      go_simp
      exact ⟨_, _, _, _, _, _, _, _, _, _, _, rfl, (fun _ => rfl), (fun h => absurd (show L 7 = true from h) (by rw [hc0]; decide)), { HR.out with e3 := fun _ => rfl }⟩
    · cases ho
      have hc0 : L 7 = false := by
        cases h : L 7 with
        | false => rfl
        | true => rw [a4.out h] at hL; cases hL
      obtain rfl := hJ1 hc0
      clear hR hpre hcl hJ1 hJ2
      unfold StepIn fs11
      go_simp
      exact ⟨_, _, _, _, _, _, _, _, _, _, _, rfl, (fun _ => rfl), (fun h => absurd (show L 7 = true from h) (by rw [hc0]; decide)), { HR.out with e4 := fun _ => rfl }⟩
    · cases ho
      have hc0 : L 7 = false := by
        cases h : L 7 with
        | false => rfl
        | true => rw [a5.out h] at hL; cases hL
      obtain rfl := hJ1 hc0
      clear hR hpre hcl hJ1 hJ2
      unfold StepIn fs11
      go_simp
      exact ⟨_, _, _, _, _, _, _, _, _, _, _, rfl, (fun _ => rfl), (fun h => absurd (show L 7 = true from h) (by rw [hc0]; decide)), { HR.out with e5 := fun _ => rfl }⟩
    · cases ho
      have hc0 : L 7 = false := by
        cases h : L 7 with
        | false => rfl
        | true => rw [a6.out h] at hL; cases hL
      obtain rfl := hJ1 hc0
      obtain rfl := hR.e5 (hpre ⟨5, .data⟩ (by simp) rfl)
      clear hR hpre hcl hJ1 hJ2
      unfold StepIn fs11
      go_simp
      exact ⟨_, _, _, _, _, _, _, _, _, _, _, rfl, (fun _ => rfl), (fun h => absurd (show L 7 = true from h) (by rw [hc0]; decide)), { HR.out with e6 := fun _ => rfl }⟩
    · cases ho
      obtain rfl := hJ1 hL
      obtain rfl := hR.e3 (hpre ⟨3, .data⟩ (by simp) rfl)
      obtain rfl := hR.e4 (hpre ⟨4, .data⟩ (by simp) rfl)
      obtain rfl := hR.e6 (hpre ⟨6, .data⟩ (by simp) rfl)
      clear hR hpre hcl hJ1 hJ2
      unfold StepIn fs11
      go_simp
      refine ⟨trivial, (by intro h; cases h), CallsIn.mono (callsIn_wide.2 Hcall.out) ?_⟩
      rintro e w3 ⟨rfl, hq⟩
      exact ⟨_, _, _, _, _, _, _, _, _, _, _, rfl, (nomatch ·), fun _ => hq, { HR.out with e7 := fun _ => rfl }⟩
    · cases ho
      have hJ1' : L 7 = false → w1 = W.drew := hJ1
      have hJ2' : L 7 = true → Post w1 := hJ2
      replace hJ1' := Lib.hid hJ1'
      replace hJ2' := Lib.hid hJ2'
      clear hR hpre hcl hJ1 hJ2
      unfold StepIn fs11
      go_simp
      exact ⟨_, _, _, _, _, _, _, _, _, _, _, rfl, hJ1'.out, hJ2'.out, { HR.out with e8 := fun _ => rfl }⟩
    · cases ho
      obtain rfl := hR.e7 (hpre ⟨7, .data⟩ (by simp) rfl)
      obtain rfl := hR.e8 (hpre ⟨8, .data⟩ (by simp) rfl)
      have hJ1' : L 7 = false → w1 = W.drew := hJ1
      have hJ2' : L 7 = true → Post w1 := hJ2
      replace hJ1' := Lib.hid hJ1'
      replace hJ2' := Lib.hid hJ2'
      clear hR hpre hcl hJ1 hJ2
      unfold StepIn fs11
      go_simp
      exact ⟨_, _, _, _, _, _, _, _, _, _, _, rfl, hJ1'.out, hJ2'.out, { HR.out with e9 := fun _ => rfl }⟩
    · cases ho
      obtain rfl := hR.e9 (hpre ⟨9, .data⟩ (by simp) rfl)
      have hJ1' : L 7 = false → w1 = W.drew := hJ1
      have hJ2' : L 7 = true → Post w1 := hJ2
      replace hJ1' := Lib.hid hJ1'
      replace hJ2' := Lib.hid hJ2'
      clear hR hpre hcl hJ1 hJ2
      unfold StepIn fs11
      go_simp
      exact ⟨_, _, _, _, _, _, _, _, _, _, _, rfl, hJ1'.out, hJ2'.out, { HR.out with e10 := fun _ => rfl }⟩
  · rintro L a w1 hall ⟨x45, x46, x47, x48, x49, x50, x51, x52, x53, x54, x6, rfl, hJ1, hJ2, hR⟩
    obtain rfl := hR.e10 (hall 10 (by decide))
    exact HQ.out _ (hJ2 (hall 7 (by decide))) _ _ _ _ _ _ _ _ _ _

structure Rs9 (pb off h0 ck nl cv : Nat) (Ak Av : Option Addr) (key : List Int) (xs : Value) (g : Int) (b : Bool) (L : Nat → Bool) (x58 x59 x60 x61 x62 x63 x64 x57 x65 x66 x9 x10 : Value) : Prop where
  e0 : L 0 = true → x58 = .pointer (some ⟨pb, off, none⟩)
  e1 : L 1 = true → x59 = .pointer (some ⟨pb, off, none⟩)
  e2 : L 2 = true → x60 = .pointer (some ⟨pb, off + 1, none⟩)
  e3 : L 3 = true → x61 = .agg #[.slice Av nl cv]
  e4 : L 4 = true → x62 = .pointer (some ⟨h0, 2, none⟩)
  e5 : L 5 = true → x63 = .slice Ak key.length ck
  e6 : L 6 = true → x64 = .tuple #[.int .i64 g, .bool b]
  e7 : L 7 = true → x57 = .tuple #[.int .i64 g, .bool b]
  e8 : L 8 = true → x65 = .int .i64 g
  e9 : L 9 = true → x66 = .bool b
  e10 : L 10 = true → x9 = .int .i64 g
  e11 : L 11 = true → x10 = .bool b
def Js9 (sv s2 s4 : Value) (y6 y7 y8 y11 y12 y13 y14 y15 y16 y17 y18 y19 y20 y21 y22 y23 y24 y25 y26 y27 y28 y29 y30 y31 y32 y33 y34 y35 y36 y37 y38 y39 y40 y41 y42 y43 y44 y45 y46 y47 y48 y49 y50 y51 y52 y53 y54 y55 y56 y67 y68 y69 y70 y71 y72 y73 y74 y75 y76 y77 y78 y79 y80 y81 y82 y83 y84 y85 y86 y87 y88 y89 y90 y91 y92 y93 y94 y95 y96 y97 y98 y99 y100 y101 y102 y103 y104 y105 y106 y107 y108 y109 y110 y111 y112 y113 y114 y115 y116 y117 y118 y119 y120 y121 y122 y123 y124 y125 y126 y127 y128 y129 y130 y131 y132 y133 y134 y135 y136 y137 y138 y139 y140 y141 y142 y143 y144 y145 y146 y147 y148 y149 y150 y151 y152 y153 y154 y155 y156 y157 y158 y159 y160 y161 y162 y163 y164 y165 y166 y167 y168 y169 y170 y171 y172 y173 y174 y175 y176 y177 y178 y179 : Value) (pb off h0 ck nl cv : Nat) (Ak Av : Option Addr) (key : List Int) (xs : Value) (g : Int) (b : Bool) (W : World) (Post : World → Prop) (L : Nat → Bool) (a : Act) (w : World) : Prop :=
  ∃ x58 x59 x60 x61 x62 x63 x64 x57 x65 x66 x9 x10, a = (fs11 pb off sv s2 h0 s4 xs y6 y7 y8 x9 x10 y11 y12 y13 y14 y15 y16 y17 y18 y19 y20 y21 y22 y23 y24 y25 y26 y27 y28 y29 y30 y31 y32 y33 y34 y35 y36 y37 y38 y39 y40 y41 y42 y43 y44 y45 y46 y47 y48 y49 y50 y51 y52 y53 y54 y55 y56 x57 x58 x59 x60 x61 x62 x63 x64 x65 x66 y67 y68 y69 y70 y71 y72 y73 y74 y75 y76 y77 y78 y79 y80 y81 y82 y83 y84 y85 y86 y87 y88 y89 y90 y91 y92 y93 y94 y95 y96 y97 y98 y99 y100 y101 y102 y103 y104 y105 y106 y107 y108 y109 y110 y111 y112 y113 y114 y115 y116 y117 y118 y119 y120 y121 y122 y123 y124 y125 y126 y127 y128 y129 y130 y131 y132 y133 y134 y135 y136 y137 y138 y139 y140 y141 y142 y143 y144 y145 y146 y147 y148 y149 y150 y151 y152 y153 y154 y155 y156 y157 y158 y159 y160 y161 y162 y163 y164 y165 y166 y167 y168 y169 y170 y171 y172 y173 y174 y175 y176 y177 y178 y179) ∧ (L 6 = false → w = W.drew) ∧ (L 6 = true → Post w) ∧ Rs9 pb off h0 ck nl cv Ak Av key xs g b L x58 x59 x60 x61 x62 x63 x64 x57 x65 x66 x9 x10

set_option maxHeartbeats 2000000 in
set_option maxRecDepth 100000 in
theorem s9_i (n : Nat) (Q : Exit → Act → World → Prop) (W : World) (sv s2 s4 : Value) (pb off h0 ck nl cv : Nat) (Ak Av : Option Addr) (key : List Int) (xs : Value) (g : Int) (b : Bool) (Post : World → Prop) (hcv : W.cell? ⟨pb, off + 1, none⟩ = some (.slice Av nl cv)) (hck : W.cell? ⟨h0, 2, none⟩ = some (.slice Ak key.length ck))
    (hcall : Calls Try.prog 38 #[.agg #[.slice Av nl cv], .slice Ak key.length ck] W.drew (fun e w' => e = .returned (.tuple #[.int .i64 g, .bool b]) ∧ Post w')) (y6 y7 y8 y9 y10 y11 y12 y13 y14 y15 y16 y17 y18 y19 y20 y21 y22 y23 y24 y25 y26 y27 y28 y29 y30 y31 y32 y33 y34 y35 y36 y37 y38 y39 y40 y41 y42 y43 y44 y45 y46 y47 y48 y49 y50 y51 y52 y53 y54 y55 y56 y57 y58 y59 y60 y61 y62 y63 y64 y65 y66 y67 y68 y69 y70 y71 y72 y73 y74 y75 y76 y77 y78 y79 y80 y81 y82 y83 y84 y85 y86 y87 y88 y89 y90 y91 y92 y93 y94 y95 y96 y97 y98 y99 y100 y101 y102 y103 y104 y105 y106 y107 y108 y109 y110 y111 y112 y113 y114 y115 y116 y117 y118 y119 y120 y121 y122 y123 y124 y125 y126 y127 y128 y129 y130 y131 y132 y133 y134 y135 y136 y137 y138 y139 y140 y141 y142 y143 y144 y145 y146 y147 y148 y149 y150 y151 y152 y153 y154 y155 y156 y157 y158 y159 y160 y161 y162 y163 y164 y165 y166 y167 y168 y169 y170 y171 y172 y173 y174 y175 y176 y177 y178 y179 : Value)
    (hQ : ∀ w', Post w' → ∀ x58 x59 x60 x61 x62 x63 x64 x57 x65 x66, Q .normal (fs11 pb off sv s2 h0 s4 xs y6 y7 y8 (.int .i64 g) (.bool b) y11 y12 y13 y14 y15 y16 y17 y18 y19 y20 y21 y22 y23 y24 y25 y26 y27 y28 y29 y30 y31 y32 y33 y34 y35 y36 y37 y38 y39 y40 y41 y42 y43 y44 y45 y46 y47 y48 y49 y50 y51 y52 y53 y54 y55 y56 x57 x58 x59 x60 x61 x62 x63 x64 x65 x66 y67 y68 y69 y70 y71 y72 y73 y74 y75 y76 y77 y78 y79 y80 y81 y82 y83 y84 y85 y86 y87 y88 y89 y90 y91 y92 y93 y94 y95 y96 y97 y98 y99 y100 y101 y102 y103 y104 y105 y106 y107 y108 y109 y110 y111 y112 y113 y114 y115 y116 y117 y118 y119 y120 y121 y122 y123 y124 y125 y126 y127 y128 y129 y130 y131 y132 y133 y134 y135 y136 y137 y138 y139 y140 y141 y142 y143 y144 y145 y146 y147 y148 y149 y150 y151 y152 y153 y154 y155 y156 y157 y158 y159 y160 y161 y162 y163 y164 y165 y166 y167 y168 y169 y170 y171 y172 y173 y174 y175 y176 y177 y178 y179) w') : s9.wpIn Fence.wide n Try.prog Q (fs11 pb off sv s2 h0 s4 xs y6 y7 y8 y9 y10 y11 y12 y13 y14 y15 y16 y17 y18 y19 y20 y21 y22 y23 y24 y25 y26 y27 y28 y29 y30 y31 y32 y33 y34 y35 y36 y37 y38 y39 y40 y41 y42 y43 y44 y45 y46 y47 y48 y49 y50 y51 y52 y53 y54 y55 y56 y57 y58 y59 y60 y61 y62 y63 y64 y65 y66 y67 y68 y69 y70 y71 y72 y73 y74 y75 y76 y77 y78 y79 y80 y81 y82 y83 y84 y85 y86 y87 y88 y89 y90 y91 y92 y93 y94 y95 y96 y97 y98 y99 y100 y101 y102 y103 y104 y105 y106 y107 y108 y109 y110 y111 y112 y113 y114 y115 y116 y117 y118 y119 y120 y121 y122 y123 y124 y125 y126 y127 y128 y129 y130 y131 y132 y133 y134 y135 y136 y137 y138 y139 y140 y141 y142 y143 y144 y145 y146 y147 y148 y149 y150 y151 y152 y153 y154 y155 y156 y157 y158 y159 y160 y161 y162 y163 y164 y165 y166 y167 y168 y169 y170 y171 y172 y173 y174 y175 y176 y177 y178 y179) W := by
  have Hcall := Lib.hid hcall
  have HQ := Lib.hid hQ
  clear hcall hQ
  unfold s9 sx1 sw11 fs11
  dsimp only [Try.f11, bodyOf, sqF, sqS, cdT, cdE, bkB, lpB, rfB]
  refine wpIn_region_closed (by kernel_rfl) (by kernel_rfl) (Js9 sv s2 s4 y6 y7 y8 y11 y12 y13 y14 y15 y16 y17 y18 y19 y20 y21 y22 y23 y24 y25 y26 y27 y28 y29 y30 y31 y32 y33 y34 y35 y36 y37 y38 y39 y40 y41 y42 y43 y44 y45 y46 y47 y48 y49 y50 y51 y52 y53 y54 y55 y56 y67 y68 y69 y70 y71 y72 y73 y74 y75 y76 y77 y78 y79 y80 y81 y82 y83 y84 y85 y86 y87 y88 y89 y90 y91 y92 y93 y94 y95 y96 y97 y98 y99 y100 y101 y102 y103 y104 y105 y106 y107 y108 y109 y110 y111 y112 y113 y114 y115 y116 y117 y118 y119 y120 y121 y122 y123 y124 y125 y126 y127 y128 y129 y130 y131 y132 y133 y134 y135 y136 y137 y138 y139 y140 y141 y142 y143 y144 y145 y146 y147 y148 y149 y150 y151 y152 y153 y154 y155 y156 y157 y158 y159 y160 y161 y162 y163 y164 y165 y166 y167 y168 y169 y170 y171 y172 y173 y174 y175 y176 y177 y178 y179 pb off h0 ck nl cv Ak Av key xs g b W Post) ?_ ?_ ?_
  · exact ⟨y58, y59, y60, y61, y62, y63, y64, y57, y65, y66, y9, y10, rfl, fun _ => rfl, (nomatch ·), ⟨(nomatch ·), (nomatch ·), (nomatch ·), (nomatch ·), (nomatch ·), (nomatch ·), (nomatch ·), (nomatch ·), (nomatch ·), (nomatch ·), (nomatch ·), (nomatch ·)⟩⟩
  · intro i o L a w1 ho hL hpre hcl hJJ
    have hi : i < 12 := by
      rcases Nat.lt_or_ge i 12 with h | h
      · exact h
      · rw [Array.getElem?_eq_none (by simpa using h)] at ho; cases ho
    obtain ⟨x58, x59, x60, x61, x62, x63, x64, x57, x65, x66, x9, x10, rfl, hJ1, hJ2, hR⟩ := hJJ
    have HR := Lib.hid hR
    have a3 : L 6 = true → L 3 = true := fun h => hcl 6 _ rfl h ⟨3, .data⟩ (by simp) rfl
    have a5 : L 6 = true → L 5 = true := fun h => hcl 6 _ rfl h ⟨5, .data⟩ (by simp) rfl
    have a2 : L 6 = true → L 2 = true := fun h => hcl 3 _ rfl (a3 h) ⟨2, .data⟩ (by simp) rfl
    have a4 : L 6 = true → L 4 = true := fun h => hcl 5 _ rfl (a5 h) ⟨4, .data⟩ (by simp) rfl
    have a1 : L 6 = true → L 1 = true := fun h => hcl 2 _ rfl (a2 h) ⟨1, .data⟩ (by simp) rfl
    have a0 : L 6 = true → L 0 = true := fun h => hcl 1 _ rfl (a1 h) ⟨0, .data⟩ (by simp) rfl
    have c7 : L 7 = true → L 6 = true := fun h => hcl 7 _ rfl h ⟨6, .data⟩ (by simp) rfl
    have c8 : L 8 = true → L 6 = true := fun h => c7 (hcl 8 _ rfl h ⟨7, .data⟩ (by simp) rfl)
    have c9 : L 9 = true → L 6 = true := fun h => c7 (hcl 9 _ rfl h ⟨7, .data⟩ (by simp) rfl)
    have c10 : L 10 = true → L 6 = true := fun h => c8 (hcl 10 _ rfl h ⟨8, .data⟩ (by simp) rfl)
    have c11 : L 11 = true → L 6 = true := fun h => c9 (hcl 11 _ rfl h ⟨9, .data⟩ (by simp) rfl)
    replace a3 := Lib.hid a3
    replace a5 := Lib.hid a5
    replace a2 := Lib.hid a2
    replace a4 := Lib.hid a4
    replace a1 := Lib.hid a1
    replace a0 := Lib.hid a0
    replace c7 := Lib.hid c7
    replace c8 := Lib.hid c8
    replace c9 := Lib.hid c9
    replace c10 := Lib.hid c10
    replace c11 := Lib.hid c11
    rcases (by omega : i = 0 ∨ i = 1 ∨ i = 2 ∨ i = 3 ∨ i = 4 ∨ i = 5 ∨ i = 6 ∨ i = 7 ∨ i = 8 ∨ i = 9 ∨ i = 10 ∨ i = 11) with rfl | rfl | rfl | rfl | rfl | rfl | rfl | rfl | rfl | rfl | rfl | rfl
    · cases ho
      have hc0 : L 6 = false := by
        cases h : L 6 with
        | false => rfl
        | true => rw [a0.out h] at hL; cases hL
      obtain rfl := hJ1 hc0
      clear hR hpre hcl hJ1 hJ2
      unfold StepIn fs11
      go_simp
      exact ⟨_, _, _, _, _, _, _, _, _, _, _, _, rfl, (fun _ => rfl), (fun h => absurd (show L 6 = true from h) (by rw [hc0]; decide)), { HR.out with e0 := fun _ => rfl }⟩
    · cases ho
      have hc0 : L 6 = false := by
        cases h : L 6 with
        | false => rfl
        | true => rw [a1.out h] at hL; cases hL
      obtain rfl := hJ1 hc0
      obtain rfl := hR.e0 (hpre ⟨0, .data⟩ (by simp) rfl)
      clear hR hpre hcl hJ1 hJ2
      unfold StepIn fs11
      go_simp
      exact ⟨_, _, _, _, _, _, _, _, _, _, _, _, rfl, (fun _ => rfl), (fun h => absurd (show L 6 = true from h) (by rw [hc0]; decide)), { HR.out with e1 := fun _ => rfl }⟩
    · cases ho
      have hc0 : L 6 = false := by
        cases h : L 6 with
        | false => rfl
        | true => rw [a2.out h] at hL; cases hL
      obtain rfl := hJ1 hc0
      obtain rfl := hR.e1 (hpre ⟨1, .data⟩ (by simp) rfl)
      clear hR hpre hcl hJ1 hJ2
      unfold StepIn fs11
      go_simp
      exact ⟨_, _, _, _, _, _, _, _, _, _, _, _, rfl, (fun _ => rfl), (fun h => absurd (show L 6 = true from h) (by rw [hc0]; decide)), { HR.out with e2 := fun _ => rfl }⟩
    · cases ho
      have hc0 : L 6 = false := by
        cases h : L 6 with
        | false => rfl
        | true => rw [a3.out h] at hL; cases hL
      obtain rfl := hJ1 hc0
      obtain rfl := hR.e2 (hpre ⟨2, .data⟩ (by simp) rfl)
      clear hR hpre hcl hJ1 hJ2
      unfold StepIn fs11
      go_simp
      exact ⟨_, _, _, _, _, _, _, _, _, _, _, _, rfl, (fun _ => rfl), (fun h => absurd (show L 6 = true from h) (by rw [hc0]; decide)), { HR.out with e3 := fun _ => rfl }⟩
    · cases ho
      have hc0 : L 6 = false := by
        cases h : L 6 with
        | false => rfl
        | true => rw [a4.out h] at hL; cases hL
      obtain rfl := hJ1 hc0
      clear hR hpre hcl hJ1 hJ2
      unfold StepIn fs11
      go_simp
      exact ⟨_, _, _, _, _, _, _, _, _, _, _, _, rfl, (fun _ => rfl), (fun h => absurd (show L 6 = true from h) (by rw [hc0]; decide)), { HR.out with e4 := fun _ => rfl }⟩
    · cases ho
      have hc0 : L 6 = false := by
        cases h : L 6 with
        | false => rfl
        | true => rw [a5.out h] at hL; cases hL
      obtain rfl := hJ1 hc0
      obtain rfl := hR.e4 (hpre ⟨4, .data⟩ (by simp) rfl)
      clear hR hpre hcl hJ1 hJ2
      unfold StepIn fs11
      go_simp
      exact ⟨_, _, _, _, _, _, _, _, _, _, _, _, rfl, (fun _ => rfl), (fun h => absurd (show L 6 = true from h) (by rw [hc0]; decide)), { HR.out with e5 := fun _ => rfl }⟩
    · cases ho
      obtain rfl := hJ1 hL
      obtain rfl := hR.e3 (hpre ⟨3, .data⟩ (by simp) rfl)
      obtain rfl := hR.e5 (hpre ⟨5, .data⟩ (by simp) rfl)
      clear hR hpre hcl hJ1 hJ2
      unfold StepIn fs11
      go_simp
      refine ⟨trivial, (by intro h; cases h), CallsIn.mono (callsIn_wide.2 Hcall.out) ?_⟩
      rintro e w3 ⟨rfl, hq⟩
      exact ⟨_, _, _, _, _, _, _, _, _, _, _, _, rfl, (nomatch ·), fun _ => hq, { HR.out with e6 := fun _ => rfl }⟩
    · cases ho
      obtain rfl := hR.e6 (hpre ⟨6, .data⟩ (by simp) rfl)
      have hJ1' : L 6 = false → w1 = W.drew := hJ1
      have hJ2' : L 6 = true → Post w1 := hJ2
      replace hJ1' := Lib.hid hJ1'
      replace hJ2' := Lib.hid hJ2'
      clear hR hpre hcl hJ1 hJ2
      unfold StepIn fs11
      go_simp
      exact ⟨_, _, _, _, _, _, _, _, _, _, _, _, rfl, hJ1'.out, hJ2'.out, { HR.out with e7 := fun _ => rfl }⟩
    · cases ho
      obtain rfl := hR.e7 (hpre ⟨7, .data⟩ (by simp) rfl)
      have hJ1' : L 6 = false → w1 = W.drew := hJ1
      have hJ2' : L 6 = true → Post w1 := hJ2
      replace hJ1' := Lib.hid hJ1'
      replace hJ2' := Lib.hid hJ2'
      clear hR hpre hcl hJ1 hJ2
      unfold StepIn fs11
      go_simp
      exact ⟨_, _, _, _, _, _, _, _, _, _, _, _, rfl, hJ1'.out, hJ2'.out, { HR.out with e8 := fun _ => rfl }⟩
    · cases ho
      obtain rfl := hR.e7 (hpre ⟨7, .data⟩ (by simp) rfl)
      have hJ1' : L 6 = false → w1 = W.drew := hJ1
      have hJ2' : L 6 = true → Post w1 := hJ2
      replace hJ1' := Lib.hid hJ1'
      replace hJ2' := Lib.hid hJ2'
      clear hR hpre hcl hJ1 hJ2
      unfold StepIn fs11
      go_simp
      exact ⟨_, _, _, _, _, _, _, _, _, _, _, _, rfl, hJ1'.out, hJ2'.out, { HR.out with e9 := fun _ => rfl }⟩
    · cases ho
      obtain rfl := hR.e8 (hpre ⟨8, .data⟩ (by simp) rfl)
      have hJ1' : L 6 = false → w1 = W.drew := hJ1
      have hJ2' : L 6 = true → Post w1 := hJ2
      replace hJ1' := Lib.hid hJ1'
      replace hJ2' := Lib.hid hJ2'
      clear hR hpre hcl hJ1 hJ2
      unfold StepIn fs11
      go_simp
      exact ⟨_, _, _, _, _, _, _, _, _, _, _, _, rfl, hJ1'.out, hJ2'.out, { HR.out with e10 := fun _ => rfl }⟩
    · cases ho
      obtain rfl := hR.e9 (hpre ⟨9, .data⟩ (by simp) rfl)
      have hJ1' : L 6 = false → w1 = W.drew := hJ1
      have hJ2' : L 6 = true → Post w1 := hJ2
      replace hJ1' := Lib.hid hJ1'
      replace hJ2' := Lib.hid hJ2'
      clear hR hpre hcl hJ1 hJ2
      unfold StepIn fs11
      go_simp
      exact ⟨_, _, _, _, _, _, _, _, _, _, _, _, rfl, hJ1'.out, hJ2'.out, { HR.out with e11 := fun _ => rfl }⟩
  · rintro L a w1 hall ⟨x58, x59, x60, x61, x62, x63, x64, x57, x65, x66, x9, x10, rfl, hJ1, hJ2, hR⟩
    obtain rfl := hR.e10 (hall 10 (by decide))
    obtain rfl := hR.e11 (hall 11 (by decide))
    exact HQ.out _ (hJ2 (hall 6 (by decide))) _ _ _ _ _ _ _ _ _ _

structure Rs13 (pb off h0 ck nl cv : Nat) (Ak Av : Option Addr) (key : List Int) (xs : Value) (g m : Int) (b : Bool) (L : Nat → Bool) (x87 x88 x89 x90 x91 x92 x93 x86 x94 x95 x96 x13 x14 x15 : Value) : Prop where
  e0 : L 0 = true → x87 = .pointer (some ⟨pb, off, none⟩)
  e1 : L 1 = true → x88 = .pointer (some ⟨pb, off, none⟩)
  e2 : L 2 = true → x89 = .pointer (some ⟨pb, off + 1, none⟩)
  e3 : L 3 = true → x90 = .agg #[.slice Av nl cv]
  e4 : L 4 = true → x91 = .pointer (some ⟨h0, 2, none⟩)
  e5 : L 5 = true → x92 = .slice Ak key.length ck
  e6 : L 6 = true → x93 = .tuple #[.int .i64 g, .int .i64 m, .bool b]
  e7 : L 7 = true → x86 = .tuple #[.int .i64 g, .int .i64 m, .bool b]
  e8 : L 8 = true → x94 = .int .i64 g
  e9 : L 9 = true → x95 = .int .i64 m
  e10 : L 10 = true → x96 = .bool b
  e11 : L 11 = true → x13 = .int .i64 g
  e12 : L 12 = true → x14 = .int .i64 m
  e13 : L 13 = true → x15 = .bool b
def Js13 (sv s2 s4 : Value) (y6 y7 y8 y9 y10 y11 y12 y16 y17 y18 y19 y20 y21 y22 y23 y24 y25 y26 y27 y28 y29 y30 y31 y32 y33 y34 y35 y36 y37 y38 y39 y40 y41 y42 y43 y44 y45 y46 y47 y48 y49 y50 y51 y52 y53 y54 y55 y56 y57 y58 y59 y60 y61 y62 y63 y64 y65 y66 y67 y68 y69 y70 y71 y72 y73 y74 y75 y76 y77 y78 y79 y80 y81 y82 y83 y84 y85 y97 y98 y99 y100 y101 y102 y103 y104 y105 y106 y107 y108 y109 y110 y111 y112 y113 y114 y115 y116 y117 y118 y119 y120 y121 y122 y123 y124 y125 y126 y127 y128 y129 y130 y131 y132 y133 y134 y135 y136 y137 y138 y139 y140 y141 y142 y143 y144 y145 y146 y147 y148 y149 y150 y151 y152 y153 y154 y155 y156 y157 y158 y159 y160 y161 y162 y163 y164 y165 y166 y167 y168 y169 y170 y171 y172 y173 y174 y175 y176 y177 y178 y179 : Value) (pb off h0 ck nl cv : Nat) (Ak Av : Option Addr) (key : List Int) (xs : Value) (g m : Int) (b : Bool) (W : World) (Post : World → Prop) (L : Nat → Bool) (a : Act) (w : World) : Prop :=
  ∃ x87 x88 x89 x90 x91 x92 x93 x86 x94 x95 x96 x13 x14 x15, a = (fs11 pb off sv s2 h0 s4 xs y6 y7 y8 y9 y10 y11 y12 x13 x14 x15 y16 y17 y18 y19 y20 y21 y22 y23 y24 y25 y26 y27 y28 y29 y30 y31 y32 y33 y34 y35 y36 y37 y38 y39 y40 y41 y42 y43 y44 y45 y46 y47 y48 y49 y50 y51 y52 y53 y54 y55 y56 y57 y58 y59 y60 y61 y62 y63 y64 y65 y66 y67 y68 y69 y70 y71 y72 y73 y74 y75 y76 y77 y78 y79 y80 y81 y82 y83 y84 y85 x86 x87 x88 x89 x90 x91 x92 x93 x94 x95 x96 y97 y98 y99 y100 y101 y102 y103 y104 y105 y106 y107 y108 y109 y110 y111 y112 y113 y114 y115 y116 y117 y118 y119 y120 y121 y122 y123 y124 y125 y126 y127 y128 y129 y130 y131 y132 y133 y134 y135 y136 y137 y138 y139 y140 y141 y142 y143 y144 y145 y146 y147 y148 y149 y150 y151 y152 y153 y154 y155 y156 y157 y158 y159 y160 y161 y162 y163 y164 y165 y166 y167 y168 y169 y170 y171 y172 y173 y174 y175 y176 y177 y178 y179) ∧ (L 6 = false → w = W.drew) ∧ (L 6 = true → Post w) ∧ Rs13 pb off h0 ck nl cv Ak Av key xs g m b L x87 x88 x89 x90 x91 x92 x93 x86 x94 x95 x96 x13 x14 x15

set_option maxHeartbeats 2000000 in
set_option maxRecDepth 100000 in
theorem s13_i (n : Nat) (Q : Exit → Act → World → Prop) (W : World) (sv s2 s4 : Value) (pb off h0 ck nl cv : Nat) (Ak Av : Option Addr) (key : List Int) (xs : Value) (g m : Int) (b : Bool) (Post : World → Prop) (hcv : W.cell? ⟨pb, off + 1, none⟩ = some (.slice Av nl cv)) (hck : W.cell? ⟨h0, 2, none⟩ = some (.slice Ak key.length ck))
    (hcall : Calls Try.prog 39 #[.agg #[.slice Av nl cv], .slice Ak key.length ck] W.drew (fun e w' => e = .returned (.tuple #[.int .i64 g, .int .i64 m, .bool b]) ∧ Post w')) (y6 y7 y8 y9 y10 y11 y12 y13 y14 y15 y16 y17 y18 y19 y20 y21 y22 y23 y24 y25 y26 y27 y28 y29 y30 y31 y32 y33 y34 y35 y36 y37 y38 y39 y40 y41 y42 y43 y44 y45 y46 y47 y48 y49 y50 y51 y52 y53 y54 y55 y56 y57 y58 y59 y60 y61 y62 y63 y64 y65 y66 y67 y68 y69 y70 y71 y72 y73 y74 y75 y76 y77 y78 y79 y80 y81 y82 y83 y84 y85 y86 y87 y88 y89 y90 y91 y92 y93 y94 y95 y96 y97 y98 y99 y100 y101 y102 y103 y104 y105 y106 y107 y108 y109 y110 y111 y112 y113 y114 y115 y116 y117 y118 y119 y120 y121 y122 y123 y124 y125 y126 y127 y128 y129 y130 y131 y132 y133 y134 y135 y136 y137 y138 y139 y140 y141 y142 y143 y144 y145 y146 y147 y148 y149 y150 y151 y152 y153 y154 y155 y156 y157 y158 y159 y160 y161 y162 y163 y164 y165 y166 y167 y168 y169 y170 y171 y172 y173 y174 y175 y176 y177 y178 y179 : Value)
    (hQ : ∀ w', Post w' → ∀ x87 x88 x89 x90 x91 x92 x93 x86 x94 x95 x96, Q .normal (fs11 pb off sv s2 h0 s4 xs y6 y7 y8 y9 y10 y11 y12 (.int .i64 g) (.int .i64 m) (.bool b) y16 y17 y18 y19 y20 y21 y22 y23 y24 y25 y26 y27 y28 y29 y30 y31 y32 y33 y34 y35 y36 y37 y38 y39 y40 y41 y42 y43 y44 y45 y46 y47 y48 y49 y50 y51 y52 y53 y54 y55 y56 y57 y58 y59 y60 y61 y62 y63 y64 y65 y66 y67 y68 y69 y70 y71 y72 y73 y74 y75 y76 y77 y78 y79 y80 y81 y82 y83 y84 y85 x86 x87 x88 x89 x90 x91 x92 x93 x94 x95 x96 y97 y98 y99 y100 y101 y102 y103 y104 y105 y106 y107 y108 y109 y110 y111 y112 y113 y114 y115 y116 y117 y118 y119 y120 y121 y122 y123 y124 y125 y126 y127 y128 y129 y130 y131 y132 y133 y134 y135 y136 y137 y138 y139 y140 y141 y142 y143 y144 y145 y146 y147 y148 y149 y150 y151 y152 y153 y154 y155 y156 y157 y158 y159 y160 y161 y162 y163 y164 y165 y166 y167 y168 y169 y170 y171 y172 y173 y174 y175 y176 y177 y178 y179) w') : s13.wpIn Fence.wide n Try.prog Q (fs11 pb off sv s2 h0 s4 xs y6 y7 y8 y9 y10 y11 y12 y13 y14 y15 y16 y17 y18 y19 y20 y21 y22 y23 y24 y25 y26 y27 y28 y29 y30 y31 y32 y33 y34 y35 y36 y37 y38 y39 y40 y41 y42 y43 y44 y45 y46 y47 y48 y49 y50 y51 y52 y53 y54 y55 y56 y57 y58 y59 y60 y61 y62 y63 y64 y65 y66 y67 y68 y69 y70 y71 y72 y73 y74 y75 y76 y77 y78 y79 y80 y81 y82 y83 y84 y85 y86 y87 y88 y89 y90 y91 y92 y93 y94 y95 y96 y97 y98 y99 y100 y101 y102 y103 y104 y105 y106 y107 y108 y109 y110 y111 y112 y113 y114 y115 y116 y117 y118 y119 y120 y121 y122 y123 y124 y125 y126 y127 y128 y129 y130 y131 y132 y133 y134 y135 y136 y137 y138 y139 y140 y141 y142 y143 y144 y145 y146 y147 y148 y149 y150 y151 y152 y153 y154 y155 y156 y157 y158 y159 y160 y161 y162 y163 y164 y165 y166 y167 y168 y169 y170 y171 y172 y173 y174 y175 y176 y177 y178 y179) W := by
  have Hcall := Lib.hid hcall
  have HQ := Lib.hid hQ
  clear hcall hQ
  unfold s13 sx2 sx1 sw11 fs11
  dsimp only [Try.f11, bodyOf, sqF, sqS, cdT, cdE, bkB, lpB, rfB]
  refine wpIn_region_closed (by kernel_rfl) (by kernel_rfl) (Js13 sv s2 s4 y6 y7 y8 y9 y10 y11 y12 y16 y17 y18 y19 y20 y21 y22 y23 y24 y25 y26 y27 y28 y29 y30 y31 y32 y33 y34 y35 y36 y37 y38 y39 y40 y41 y42 y43 y44 y45 y46 y47 y48 y49 y50 y51 y52 y53 y54 y55 y56 y57 y58 y59 y60 y61 y62 y63 y64 y65 y66 y67 y68 y69 y70 y71 y72 y73 y74 y75 y76 y77 y78 y79 y80 y81 y82 y83 y84 y85 y97 y98 y99 y100 y101 y102 y103 y104 y105 y106 y107 y108 y109 y110 y111 y112 y113 y114 y115 y116 y117 y118 y119 y120 y121 y122 y123 y124 y125 y126 y127 y128 y129 y130 y131 y132 y133 y134 y135 y136 y137 y138 y139 y140 y141 y142 y143 y144 y145 y146 y147 y148 y149 y150 y151 y152 y153 y154 y155 y156 y157 y158 y159 y160 y161 y162 y163 y164 y165 y166 y167 y168 y169 y170 y171 y172 y173 y174 y175 y176 y177 y178 y179 pb off h0 ck nl cv Ak Av key xs g m b W Post) ?_ ?_ ?_
  · exact ⟨y87, y88, y89, y90, y91, y92, y93, y86, y94, y95, y96, y13, y14, y15, rfl, fun _ => rfl, (nomatch ·), ⟨(nomatch ·), (nomatch ·), (nomatch ·), (nomatch ·), (nomatch ·), (nomatch ·), (nomatch ·), (nomatch ·), (nomatch ·), (nomatch ·), (nomatch ·), (nomatch ·), (nomatch ·), (nomatch ·)⟩⟩
  · intro i o L a w1 ho hL hpre hcl hJJ
    have hi : i < 14 := by
      rcases Nat.lt_or_ge i 14 with h | h
      · exact h
      · rw [Array.getElem?_eq_none (by simpa using h)] at ho; cases ho
    obtain ⟨x87, x88, x89, x90, x91, x92, x93, x86, x94, x95, x96, x13, x14, x15, rfl, hJ1, hJ2, hR⟩ := hJJ
    have HR := Lib.hid hR
    have a3 : L 6 = true → L 3 = true := fun h => hcl 6 _ rfl h ⟨3, .data⟩ (by simp) rfl
    have a5 : L 6 = true → L 5 = true := fun h => hcl 6 _ rfl h ⟨5, .data⟩ (by simp) rfl
    have a2 : L 6 = true → L 2 = true := fun h => hcl 3 _ rfl (a3 h) ⟨2, .data⟩ (by simp) rfl
    have a4 : L 6 = true → L 4 = true := fun h => hcl 5 _ rfl (a5 h) ⟨4, .data⟩ (by simp) rfl
    have a1 : L 6 = true → L 1 = true := fun h => hcl 2 _ rfl (a2 h) ⟨1, .data⟩ (by simp) rfl
    have a0 : L 6 = true → L 0 = true := fun h => hcl 1 _ rfl (a1 h) ⟨0, .data⟩ (by simp) rfl
    have c7 : L 7 = true → L 6 = true := fun h => hcl 7 _ rfl h ⟨6, .data⟩ (by simp) rfl
    have c8 : L 8 = true → L 6 = true := fun h => c7 (hcl 8 _ rfl h ⟨7, .data⟩ (by simp) rfl)
    have c9 : L 9 = true → L 6 = true := fun h => c7 (hcl 9 _ rfl h ⟨7, .data⟩ (by simp) rfl)
    have c10 : L 10 = true → L 6 = true := fun h => c7 (hcl 10 _ rfl h ⟨7, .data⟩ (by simp) rfl)
    have c11 : L 11 = true → L 6 = true := fun h => c8 (hcl 11 _ rfl h ⟨8, .data⟩ (by simp) rfl)
    have c12 : L 12 = true → L 6 = true := fun h => c9 (hcl 12 _ rfl h ⟨9, .data⟩ (by simp) rfl)
    have c13 : L 13 = true → L 6 = true := fun h => c10 (hcl 13 _ rfl h ⟨10, .data⟩ (by simp) rfl)
    replace a3 := Lib.hid a3
    replace a5 := Lib.hid a5
    replace a2 := Lib.hid a2
    replace a4 := Lib.hid a4
    replace a1 := Lib.hid a1
    replace a0 := Lib.hid a0
    replace c7 := Lib.hid c7
    replace c8 := Lib.hid c8
    replace c9 := Lib.hid c9
    replace c10 := Lib.hid c10
    replace c11 := Lib.hid c11
    replace c12 := Lib.hid c12
    replace c13 := Lib.hid c13
    rcases (by omega : i = 0 ∨ i = 1 ∨ i = 2 ∨ i = 3 ∨ i = 4 ∨ i = 5 ∨ i = 6 ∨ i = 7 ∨ i = 8 ∨ i = 9 ∨ i = 10 ∨ i = 11 ∨ i = 12 ∨ i = 13) with rfl | rfl | rfl | rfl | rfl | rfl | rfl | rfl | rfl | rfl | rfl | rfl | rfl | rfl
    · cases ho
      have hc0 : L 6 = false := by
        cases h : L 6 with
        | false => rfl
        | true => rw [a0.out h] at hL; cases hL
      obtain rfl := hJ1 hc0
      clear hR hpre hcl hJ1 hJ2
      unfold StepIn fs11
      go_simp
      exact ⟨_, _, _, _, _, _, _, _, _, _, _, _, _, _, rfl, (fun _ => rfl), (fun h => absurd (show L 6 = true from h) (by rw [hc0]; decide)), { HR.out with e0 := fun _ => rfl }⟩
    · cases ho
      have hc0 : L 6 = false := by
        cases h : L 6 with
        | false => rfl
        | true => rw [a1.out h] at hL; cases hL
      obtain rfl := hJ1 hc0
      obtain rfl := hR.e0 (hpre ⟨0, .data⟩ (by simp) rfl)
      clear hR hpre hcl hJ1 hJ2
      unfold StepIn fs11
      go_simp
      exact ⟨_, _, _, _, _, _, _, _, _, _, _, _, _, _, rfl, (fun _ => rfl), (fun h => absurd (show L 6 = true from h) (by rw [hc0]; decide)), { HR.out with e1 := fun _ => rfl }⟩
    · cases ho
      have hc0 : L 6 = false := by
        cases h : L 6 with
        | false => rfl
        | true => rw [a2.out h] at hL; cases hL
      obtain rfl := hJ1 hc0
      obtain rfl := hR.e1 (hpre ⟨1, .data⟩ (by simp) rfl)
      clear hR hpre hcl hJ1 hJ2
      unfold StepIn fs11
      go_simp
      exact ⟨_, _, _, _, _, _, _, _, _, _, _, _, _, _, rfl, (fun _ => rfl), (fun h => absurd (show L 6 = true from h) (by rw [hc0]; decide)), { HR.out with e2 := fun _ => rfl }⟩
    · cases ho
      have hc0 : L 6 = false := by
        cases h : L 6 with
        | false => rfl
        | true => rw [a3.out h] at hL; cases hL
      obtain rfl := hJ1 hc0
      obtain rfl := hR.e2 (hpre ⟨2, .data⟩ (by simp) rfl)
      clear hR hpre hcl hJ1 hJ2
      unfold StepIn fs11
      go_simp
      exact ⟨_, _, _, _, _, _, _, _, _, _, _, _, _, _, rfl, (fun _ => rfl), (fun h => absurd (show L 6 = true from h) (by rw [hc0]; decide)), { HR.out with e3 := fun _ => rfl }⟩
    · cases ho
      have hc0 : L 6 = false := by
        cases h : L 6 with
        | false => rfl
        | true => rw [a4.out h] at hL; cases hL
      obtain rfl := hJ1 hc0
      clear hR hpre hcl hJ1 hJ2
      unfold StepIn fs11
      go_simp
      exact ⟨_, _, _, _, _, _, _, _, _, _, _, _, _, _, rfl, (fun _ => rfl), (fun h => absurd (show L 6 = true from h) (by rw [hc0]; decide)), { HR.out with e4 := fun _ => rfl }⟩
    · cases ho
      have hc0 : L 6 = false := by
        cases h : L 6 with
        | false => rfl
        | true => rw [a5.out h] at hL; cases hL
      obtain rfl := hJ1 hc0
      obtain rfl := hR.e4 (hpre ⟨4, .data⟩ (by simp) rfl)
      clear hR hpre hcl hJ1 hJ2
      unfold StepIn fs11
      go_simp
      exact ⟨_, _, _, _, _, _, _, _, _, _, _, _, _, _, rfl, (fun _ => rfl), (fun h => absurd (show L 6 = true from h) (by rw [hc0]; decide)), { HR.out with e5 := fun _ => rfl }⟩
    · cases ho
      obtain rfl := hJ1 hL
      obtain rfl := hR.e3 (hpre ⟨3, .data⟩ (by simp) rfl)
      obtain rfl := hR.e5 (hpre ⟨5, .data⟩ (by simp) rfl)
      clear hR hpre hcl hJ1 hJ2
      unfold StepIn fs11
      go_simp
      refine ⟨trivial, (by intro h; cases h), CallsIn.mono (callsIn_wide.2 Hcall.out) ?_⟩
      rintro e w3 ⟨rfl, hq⟩
      exact ⟨_, _, _, _, _, _, _, _, _, _, _, _, _, _, rfl, (nomatch ·), fun _ => hq, { HR.out with e6 := fun _ => rfl }⟩
    · cases ho
      obtain rfl := hR.e6 (hpre ⟨6, .data⟩ (by simp) rfl)
      have hJ1' : L 6 = false → w1 = W.drew := hJ1
      have hJ2' : L 6 = true → Post w1 := hJ2
      replace hJ1' := Lib.hid hJ1'
      replace hJ2' := Lib.hid hJ2'
      clear hR hpre hcl hJ1 hJ2
      unfold StepIn fs11
      go_simp
      exact ⟨_, _, _, _, _, _, _, _, _, _, _, _, _, _, rfl, hJ1'.out, hJ2'.out, { HR.out with e7 := fun _ => rfl }⟩
    · cases ho
      obtain rfl := hR.e7 (hpre ⟨7, .data⟩ (by simp) rfl)
      have hJ1' : L 6 = false → w1 = W.drew := hJ1
      have hJ2' : L 6 = true → Post w1 := hJ2
      replace hJ1' := Lib.hid hJ1'
      replace hJ2' := Lib.hid hJ2'
      clear hR hpre hcl hJ1 hJ2
      unfold StepIn fs11
      go_simp
      exact ⟨_, _, _, _, _, _, _, _, _, _, _, _, _, _, rfl, hJ1'.out, hJ2'.out, { HR.out with e8 := fun _ => rfl }⟩
    · cases ho
      obtain rfl := hR.e7 (hpre ⟨7, .data⟩ (by simp) rfl)
      have hJ1' : L 6 = false → w1 = W.drew := hJ1
      have hJ2' : L 6 = true → Post w1 := hJ2
      replace hJ1' := Lib.hid hJ1'
      replace hJ2' := Lib.hid hJ2'
      clear hR hpre hcl hJ1 hJ2
      unfold StepIn fs11
      go_simp
      exact ⟨_, _, _, _, _, _, _, _, _, _, _, _, _, _, rfl, hJ1'.out, hJ2'.out, { HR.out with e9 := fun _ => rfl }⟩
    · cases ho
      obtain rfl := hR.e7 (hpre ⟨7, .data⟩ (by simp) rfl)
      have hJ1' : L 6 = false → w1 = W.drew := hJ1
      have hJ2' : L 6 = true → Post w1 := hJ2
      replace hJ1' := Lib.hid hJ1'
      replace hJ2' := Lib.hid hJ2'
      clear hR hpre hcl hJ1 hJ2
      unfold StepIn fs11
      go_simp
      exact ⟨_, _, _, _, _, _, _, _, _, _, _, _, _, _, rfl, hJ1'.out, hJ2'.out, { HR.out with e10 := fun _ => rfl }⟩
    · cases ho
      obtain rfl := hR.e8 (hpre ⟨8, .data⟩ (by simp) rfl)
      have hJ1' : L 6 = false → w1 = W.drew := hJ1
      have hJ2' : L 6 = true → Post w1 := hJ2
      replace hJ1' := Lib.hid hJ1'
      replace hJ2' := Lib.hid hJ2'
      clear hR hpre hcl hJ1 hJ2
      unfold StepIn fs11
      go_simp
      exact ⟨_, _, _, _, _, _, _, _, _, _, _, _, _, _, rfl, hJ1'.out, hJ2'.out, { HR.out with e11 := fun _ => rfl }⟩
    · cases ho
      obtain rfl := hR.e9 (hpre ⟨9, .data⟩ (by simp) rfl)
      have hJ1' : L 6 = false → w1 = W.drew := hJ1
      have hJ2' : L 6 = true → Post w1 := hJ2
      replace hJ1' := Lib.hid hJ1'
      replace hJ2' := Lib.hid hJ2'
      clear hR hpre hcl hJ1 hJ2
      unfold StepIn fs11
      go_simp
      exact ⟨_, _, _, _, _, _, _, _, _, _, _, _, _, _, rfl, hJ1'.out, hJ2'.out, { HR.out with e12 := fun _ => rfl }⟩
    · cases ho
      obtain rfl := hR.e10 (hpre ⟨10, .data⟩ (by simp) rfl)
      have hJ1' : L 6 = false → w1 = W.drew := hJ1
      have hJ2' : L 6 = true → Post w1 := hJ2
      replace hJ1' := Lib.hid hJ1'
      replace hJ2' := Lib.hid hJ2'
      clear hR hpre hcl hJ1 hJ2
      unfold StepIn fs11
      go_simp
      exact ⟨_, _, _, _, _, _, _, _, _, _, _, _, _, _, rfl, hJ1'.out, hJ2'.out, { HR.out with e13 := fun _ => rfl }⟩
  · rintro L a w1 hall ⟨x87, x88, x89, x90, x91, x92, x93, x86, x94, x95, x96, x13, x14, x15, rfl, hJ1, hJ2, hR⟩
    obtain rfl := hR.e11 (hall 11 (by decide))
    obtain rfl := hR.e12 (hall 12 (by decide))
    obtain rfl := hR.e13 (hall 13 (by decide))
    exact HQ.out _ (hJ2 (hall 6 (by decide))) _ _ _ _ _ _ _ _ _ _ _

end Go.Proofs.Ytioflglfnalcaaa

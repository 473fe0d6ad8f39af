/- glossarylaw04.TriePlays returns true, whatever the calls, and its input reads as it did. No condition. (Part M3.) -/
import Derived.RegionIn
import Derived.Sort.CutIn
import Derived.Test.YtioflglfnalcaaaRc
import Derived.Test.YtioflglfnalcaaaM2
import Derived.Sort.LoopGhostIn
/- TriePlays: what turn 2 of walked does in a round. -/
namespace Go.Proofs.Ytioflglfnalcaaa
open Go.RowKit

attribute [local go_sem] Oper.semAt_some

/-- Where walked keeps what it needs: its boxes, the list it walks along, the row that came in. -/
structure Cx (W : World) (B0 h0 pb off wb tb kb : Nat) (dov who val nv : Int) (Ak : Option Addr) (ck : Nat) (key : List Int) (vw : Value) (want : List RowT) (turn kk : Int) : Prop where
  bp : Boxed W h0 35 (.pointer (some ⟨pb, off, none⟩))
  bs : W.heap[h0 + 1]? = some (.cells #[.int .i64 dov, .int .i64 who, .slice Ak key.length ck, .int .i64 val, .int .i64 nv] 38 (0, 0))
  br : Boxed W (h0 + 2) 4 (.bool false)
  bw : Boxed W wb 25 vw
  bt : Boxed W tb 3 (.int .i64 turn)
  bk : Boxed W kb 3 (.int .i64 kk)
  rw : RefIs AnyZ W vw want
  rk : RdI W Ak key
  lk : ∀ ad, Ak = some ad → key ≠ [] → ad.block < B0

/-- Blocks that move with a pair. -/
def Nice (B0 : Nat) (W : World) (S : Nat → Prop) : Prop := ∀ j, S j → B0 ≤ j ∧ ∀ c t f, W.heap[j]? = some (.cells c t f) → t = 78 ∨ t = 76 ∨ t = 30 ∨ t = 27

section
variable {W W' : World} {B0 h0 pb off wb tb kb : Nat} {dov who val nv : Int} {Ak : Option Addr} {ck : Nat} {key : List Int} {vw : Value} {want : List RowT} {turn kk : Int} {S : Nat → Prop}
theorem Nice.box (h : Nice B0 W S) {b : Nat} {c : Array Value} {t : TypeId} {f : Nat × Nat} (hb : W.heap[b]? = some (.cells c t f)) (ht : t ≠ 78 ∧ t ≠ 76 ∧ t ≠ 30 ∧ t ≠ 27) : ¬ S b := fun hS => by
  rcases (h b hS).2 _ _ _ hb with e | e | e | e
  · exact ht.1 e
  · exact ht.2.1 e
  · exact ht.2.2.1 e
  · exact ht.2.2.2 e
theorem Cx.frame (h : Cx W B0 h0 pb off wb tb kb dov who val nv Ak ck key vw want turn kk) (k : Fr S W W') (hs : Nice B0 W S) : Cx W' B0 h0 pb off wb tb kb dov who val nv Ak ck key vw want turn kk where
  bp := k.heap h.bp (hs.box h.bp (by decide))
  bs := k.heap h.bs (hs.box h.bs (by decide))
  br := k.heap h.br (hs.box h.br (by decide))
  bw := k.heap h.bw (hs.box h.bw (by decide))
  bt := k.heap h.bt (hs.box h.bt (by decide))
  bk := k.heap h.bk (hs.box h.bk (by decide))
  rw := h.rw.frame k fun j c t f hS hj e => by
    rcases (hs j hS).2 _ _ _ hj with e' | e' | e' | e' <;> subst e' <;> rcases e with e | e <;> cases e
  rk := h.rk.frame k fun ad e hne hS => by have := (hs _ hS).1; have := h.lk ad e hne; omega
  lk := h.lk
theorem Cx.new (h : Cx W B0 h0 pb off wb tb kb dov who val nv Ak ck key vw want turn kk) (k : Below W.heap.size W W') : Cx W' B0 h0 pb off wb tb kb dov who val nv Ak ck key vw want turn kk := h.frame (Fr.of_below k Nob) fun _ h => h.elim
end
theorem nice_own {W : World} {t : Nat} {T : AT} {L : List RowT} {ks : List (List Int)} (h : TrI W t T L ks) {B0 : Nat} (hB : ∀ j, T.own j → B0 ≤ j) : Nice B0 W T.own := fun j hj => ⟨hB j hj, fun c ty f hc => by
  rcases h.ty hj hc with e | e
  · exact .inl e
  · exact .inr (.inl e)⟩
theorem nice_pb {W : World} {pb : Nat} {c0 : Array Value} (h : W.heap[pb]? = some (.cells c0 30 (0, 0))) {B0 : Nat} (hB : B0 ≤ pb) : Nice B0 W (fun j => j = pb) := fun j hj => by
  subst hj
  exact ⟨hB, fun c ty f hc => by rw [h] at hc; injection hc with hc; injection hc with _ hc; exact .inr (.inr (.inl hc.symm))⟩
theorem rdT_nice {W W' : World} {B0 : Nat} {S : Nat → Prop} {A : Option Addr} {p : List Int} (h : RdT W A p) (k : Fr S W W') (hs : Nice B0 W S) : RdT W' A p := fun i hi => by
  obtain ⟨b, o, c, f, e, hb, hc⟩ := h i hi
  exact ⟨b, o, c, f, e, k.heap hb (hs.box hb (by decide)), hc⟩

def fr41 (sp sv : Value) (h0 wb tb kb : Nat) (it : Value) (A : Option Addr) (pn cap : Nat) (u10 : Value) (y11 y12 y13 y14 y15 y16 y17 y18 y19 y20 y21 y22 y23 y24 y25 y26 y27 y28 y29 y30 y31 y32 y33 y34 y35 y36 y37 y38 y39 y40 y41 y42 y43 y44 y45 y46 y47 y48 y49 y50 y51 y52 y53 y54 y55 y56 y57 y58 y59 y60 y61 y62 y63 y64 y65 y66 y67 y68 y69 y70 y71 y72 y73 y74 y75 y76 y77 y78 y79 y80 y81 y82 y83 y84 y85 y86 y87 y88 y89 y90 y91 y92 y93 y94 y95 y96 y97 y98 y99 y100 y101 y102 y103 y104 y105 y106 y107 y108 y109 y110 y111 y112 y113 y114 y115 y116 y117 y118 y119 y120 y121 y122 y123 y124 y125 y126 y127 y128 : Value) : Act :=
  { tmps := #[sp, sv, .pointer (some ⟨h0, 0, none⟩), .pointer (some ⟨h0 + 1, 0, none⟩), .pointer (some ⟨h0 + 2, 0, none⟩), .pointer (some ⟨wb, 0, none⟩), it, .pointer (some ⟨tb, 0, none⟩), .pointer (some ⟨kb, 0, none⟩), .slice A pn cap, u10, y11, y12, y13, y14, y15, y16, y17, y18, y19, y20, y21, y22, y23, y24, y25, y26, y27, y28, y29, y30, y31, y32, y33, y34, y35, y36, y37, y38, y39, y40, y41, y42, y43, y44, y45, y46, y47, y48, y49, y50, y51, y52, y53, y54, y55, y56, y57, y58, y59, y60, y61, y62, y63, y64, y65, y66, y67, y68, y69, y70, y71, y72, y73, y74, y75, y76, y77, y78, y79, y80, y81, y82, y83, y84, y85, y86, y87, y88, y89, y90, y91, y92, y93, y94, y95, y96, y97, y98, y99, y100, y101, y102, y103, y104, y105, y106, y107, y108, y109, y110, y111, y112, y113, y114, y115, y116, y117, y118, y119, y120, y121, y122, y123, y124, y125, y126, y127, y128], defers := [] }

noncomputable def g20 : Code := sqF (sqS c41)
noncomputable def g21 : Code := sqF (sqS (sqS c41))

structure R20 (pb off t h0 ck : Nat) (Ak : Option Addr) (key : List Int) (val : Int) (L : Nat → Bool) (x65 x66 x67 x68 x69 x70 x71 x72 : Value) : Prop where
  e0 : L 0 = true → x65 = .pointer (some ⟨pb, off, none⟩)
  e1 : L 1 = true → x66 = .pointer (some ⟨pb, off, none⟩)
  e2 : L 2 = true → x67 = .pointer (some ⟨pb, off, none⟩)
  e3 : L 3 = true → x68 = ptr t
  e4 : L 4 = true → x69 = .pointer (some ⟨h0 + 1, 2, none⟩)
  e5 : L 5 = true → x70 = .slice Ak key.length ck
  e6 : L 6 = true → x71 = .pointer (some ⟨h0 + 1, 3, none⟩)
  e7 : L 7 = true → x72 = .int .i64 val
def J20 (sp sv : Value) (h0 wb tb kb : Nat) (it : Value) (A : Option Addr) (pn cap : Nat) (u10 : Value) (y11 y12 y13 y14 y15 y16 y17 y18 y19 y20 y21 y22 y23 y24 y25 y26 y27 y28 y29 y30 y31 y32 y33 y34 y35 y36 y37 y38 y39 y40 y41 y42 y43 y44 y45 y46 y47 y48 y49 y50 y51 y52 y53 y54 y55 y56 y57 y58 y59 y60 y61 y62 y63 y64 y74 y75 y76 y77 y78 y79 y80 y81 y82 y83 y84 y85 y86 y87 y88 y89 y90 y91 y92 y93 y94 y95 y96 y97 y98 y99 y100 y101 y102 y103 y104 y105 y106 y107 y108 y109 y110 y111 y112 y113 y114 y115 y116 y117 y118 y119 y120 y121 y122 y123 y124 y125 y126 y127 y128 : Value) (pb off t ck : Nat) (Ak : Option Addr) (key : List Int) (val : Int) (W : World) (Post : World → Prop) (L : Nat → Bool) (a : Act) (w : World) : Prop :=
  ∃ x65 x66 x67 x68 x69 x70 x71 x72 x73, a = (fr41 sp sv h0 wb tb kb it A pn cap u10 y11 y12 y13 y14 y15 y16 y17 y18 y19 y20 y21 y22 y23 y24 y25 y26 y27 y28 y29 y30 y31 y32 y33 y34 y35 y36 y37 y38 y39 y40 y41 y42 y43 y44 y45 y46 y47 y48 y49 y50 y51 y52 y53 y54 y55 y56 y57 y58 y59 y60 y61 y62 y63 y64 x65 x66 x67 x68 x69 x70 x71 x72 x73 y74 y75 y76 y77 y78 y79 y80 y81 y82 y83 y84 y85 y86 y87 y88 y89 y90 y91 y92 y93 y94 y95 y96 y97 y98 y99 y100 y101 y102 y103 y104 y105 y106 y107 y108 y109 y110 y111 y112 y113 y114 y115 y116 y117 y118 y119 y120 y121 y122 y123 y124 y125 y126 y127 y128) ∧ (L 8 = false → w = W.drew ∧ R20 pb off t h0 ck Ak key val L x65 x66 x67 x68 x69 x70 x71 x72) ∧ (L 8 = true → Post w)

set_option maxHeartbeats 2000000 in
set_option maxRecDepth 100000 in
theorem g20_i (l n : Nat) (Q : Exit → Act → World → Prop) (W : World) (sp sv : Value) (h0 wb tb kb : Nat) (it : Value) (A : Option Addr) (pn cap : Nat) (u10 : Value) (B0 pb off : Nat) (dov who val nv turn kk : Int) (Ak : Option Addr) (ck : Nat) (key : List Int) (vw : Value) (want : List RowT) (t : Nat) (Post : World → Prop) (hC : Cx W B0 h0 pb off wb tb kb dov who val nv Ak ck key vw want turn kk) (hc : W.cell? ⟨pb, off, none⟩ = some (ptr t))
    (hput : Calls Try.prog 14 #[ptr t, .slice Ak key.length ck, .int .i64 val] W.drew (fun e w' => (∃ b, e = .returned (.bool b)) ∧ Post w')) (y11 y12 y13 y14 y15 y16 y17 y18 y19 y20 y21 y22 y23 y24 y25 y26 y27 y28 y29 y30 y31 y32 y33 y34 y35 y36 y37 y38 y39 y40 y41 y42 y43 y44 y45 y46 y47 y48 y49 y50 y51 y52 y53 y54 y55 y56 y57 y58 y59 y60 y61 y62 y63 y64 y65 y66 y67 y68 y69 y70 y71 y72 y73 y74 y75 y76 y77 y78 y79 y80 y81 y82 y83 y84 y85 y86 y87 y88 y89 y90 y91 y92 y93 y94 y95 y96 y97 y98 y99 y100 y101 y102 y103 y104 y105 y106 y107 y108 y109 y110 y111 y112 y113 y114 y115 y116 y117 y118 y119 y120 y121 y122 y123 y124 y125 y126 y127 y128 : Value)
    (hQ : ∀ w', Post w' → ∀ x65 x66 x67 x68 x69 x70 x71 x72 x73, Q .normal (fr41 sp sv h0 wb tb kb it A pn cap u10 y11 y12 y13 y14 y15 y16 y17 y18 y19 y20 y21 y22 y23 y24 y25 y26 y27 y28 y29 y30 y31 y32 y33 y34 y35 y36 y37 y38 y39 y40 y41 y42 y43 y44 y45 y46 y47 y48 y49 y50 y51 y52 y53 y54 y55 y56 y57 y58 y59 y60 y61 y62 y63 y64 x65 x66 x67 x68 x69 x70 x71 x72 x73 y74 y75 y76 y77 y78 y79 y80 y81 y82 y83 y84 y85 y86 y87 y88 y89 y90 y91 y92 y93 y94 y95 y96 y97 y98 y99 y100 y101 y102 y103 y104 y105 y106 y107 y108 y109 y110 y111 y112 y113 y114 y115 y116 y117 y118 y119 y120 y121 y122 y123 y124 y125 y126 y127 y128) w') : g20.wpIn (Fence.wide.inRound l) n Try.prog Q (fr41 sp sv h0 wb tb kb it A pn cap u10 y11 y12 y13 y14 y15 y16 y17 y18 y19 y20 y21 y22 y23 y24 y25 y26 y27 y28 y29 y30 y31 y32 y33 y34 y35 y36 y37 y38 y39 y40 y41 y42 y43 y44 y45 y46 y47 y48 y49 y50 y51 y52 y53 y54 y55 y56 y57 y58 y59 y60 y61 y62 y63 y64 y65 y66 y67 y68 y69 y70 y71 y72 y73 y74 y75 y76 y77 y78 y79 y80 y81 y82 y83 y84 y85 y86 y87 y88 y89 y90 y91 y92 y93 y94 y95 y96 y97 y98 y99 y100 y101 y102 y103 y104 y105 y106 y107 y108 y109 y110 y111 y112 y113 y114 y115 y116 y117 y118 y119 y120 y121 y122 y123 y124 y125 y126 y127 y128) W := by
  have hcs2 : W.cell? ⟨h0 + 1, 2, none⟩ = some (.slice Ak key.length ck) := by simp [World.cell?, hC.bs]
  have hcs3 : W.cell? ⟨h0 + 1, 3, none⟩ = some (.int .i64 val) := by simp [World.cell?, hC.bs]
  have hcp : W.cell? ⟨h0, 0, none⟩ = some (.pointer (some ⟨pb, off, none⟩)) := hC.bp.cell
  have hct : W.cell? ⟨pb, off, none⟩ = some (ptr t) := hc
  have Hput := Lib.hid hput
  have HQ := Lib.hid hQ
  clear hC hc hput hQ
  unfold g20 c41 r41 b41 w41 fr41
  dsimp only [Try.f41, bodyOf, sqF, sqS, cdT, bkB, lpB, rfB]
  refine wpIn_region_closed (by kernel_rfl) (by kernel_rfl) (J20 sp sv h0 wb tb kb it A pn cap u10 y11 y12 y13 y14 y15 y16 y17 y18 y19 y20 y21 y22 y23 y24 y25 y26 y27 y28 y29 y30 y31 y32 y33 y34 y35 y36 y37 y38 y39 y40 y41 y42 y43 y44 y45 y46 y47 y48 y49 y50 y51 y52 y53 y54 y55 y56 y57 y58 y59 y60 y61 y62 y63 y64 y74 y75 y76 y77 y78 y79 y80 y81 y82 y83 y84 y85 y86 y87 y88 y89 y90 y91 y92 y93 y94 y95 y96 y97 y98 y99 y100 y101 y102 y103 y104 y105 y106 y107 y108 y109 y110 y111 y112 y113 y114 y115 y116 y117 y118 y119 y120 y121 y122 y123 y124 y125 y126 y127 y128 pb off t ck Ak key val W Post) ?_ ?_ ?_
  · exact ⟨y65, y66, y67, y68, y69, y70, y71, y72, y73, rfl, fun _ => ⟨rfl, ⟨(nomatch ·), (nomatch ·), (nomatch ·), (nomatch ·), (nomatch ·), (nomatch ·), (nomatch ·), (nomatch ·)⟩⟩, (nomatch ·)⟩
  · intro i o L a w1 ho hL hpre hcl hJJ
    have hi : i < 9 := by
      rcases Nat.lt_or_ge i 9 with h | h
      · exact h
      · rw [Array.getElem?_eq_none (by simpa using h)] at ho; cases ho
    obtain ⟨x65, x66, x67, x68, x69, x70, x71, x72, x73, rfl, hJ1, hJ2⟩ := hJJ
    have h8 : L 8 = false := by
      cases h : L 8 with
      | false => rfl
      | true =>
        have c3 := hcl 8 _ rfl h ⟨3, .data⟩ (by simp) rfl
        have c5 := hcl 8 _ rfl h ⟨5, .data⟩ (by simp) rfl
        have c7 := hcl 8 _ rfl h ⟨7, .data⟩ (by simp) rfl
        have c2 := hcl 3 _ rfl c3 ⟨2, .data⟩ (by simp) rfl
        have c1 := hcl 2 _ rfl c2 ⟨1, .data⟩ (by simp) rfl
        have c0 := hcl 1 _ rfl c1 ⟨0, .data⟩ (by simp) rfl
        have c4 := hcl 5 _ rfl c5 ⟨4, .data⟩ (by simp) rfl
        have c6 := hcl 7 _ rfl c7 ⟨6, .data⟩ (by simp) rfl
        rcases (by omega : i = 0 ∨ i = 1 ∨ i = 2 ∨ i = 3 ∨ i = 4 ∨ i = 5 ∨ i = 6 ∨ i = 7 ∨ i = 8) with rfl | rfl | rfl | rfl | rfl | rfl | rfl | rfl | rfl <;> simp_all
    obtain ⟨rfl, hR⟩ := hJ1 h8
    have HR := Lib.hid hR
    clear hJ1 hJ2
    rcases (by omega : i = 0 ∨ i = 1 ∨ i = 2 ∨ i = 3 ∨ i = 4 ∨ i = 5 ∨ i = 6 ∨ i = 7 ∨ i = 8) with rfl | rfl | rfl | rfl | rfl | rfl | rfl | rfl | rfl
    · cases ho
      clear hR hpre hcl
      unfold StepIn fr41
      go_simp
      exact ⟨_, _, _, _, _, _, _, _, _, rfl, fun _ => ⟨rfl, { HR.out with e0 := fun _ => rfl }⟩, fun e => absurd (show L 8 = true from e) (by rw [h8]; decide)⟩
    · cases ho
      obtain rfl := hR.e0 (hpre ⟨0, .data⟩ (by simp) rfl)
      clear hR hpre hcl
      unfold StepIn fr41
      go_simp
      exact ⟨_, _, _, _, _, _, _, _, _, rfl, fun _ => ⟨rfl, { HR.out with e1 := fun _ => rfl }⟩, fun e => absurd (show L 8 = true from e) (by rw [h8]; decide)⟩
    · cases ho
      obtain rfl := hR.e1 (hpre ⟨1, .data⟩ (by simp) rfl)
      clear hR hpre hcl
      unfold StepIn fr41
      go_simp
      exact ⟨_, _, _, _, _, _, _, _, _, rfl, fun _ => ⟨rfl, { HR.out with e2 := fun _ => rfl }⟩, fun e => absurd (show L 8 = true from e) (by rw [h8]; decide)⟩
    · cases ho
      obtain rfl := hR.e2 (hpre ⟨2, .data⟩ (by simp) rfl)
      clear hR hpre hcl
      unfold StepIn fr41
      go_simp
      exact ⟨_, _, _, _, _, _, _, _, _, rfl, fun _ => ⟨rfl, { HR.out with e3 := fun _ => rfl }⟩, fun e => absurd (show L 8 = true from e) (by rw [h8]; decide)⟩
    · cases ho
      clear hR hpre hcl
      unfold StepIn fr41
      go_simp
      exact ⟨_, _, _, _, _, _, _, _, _, rfl, fun _ => ⟨rfl, { HR.out with e4 := fun _ => rfl }⟩, fun e => absurd (show L 8 = true from e) (by rw [h8]; decide)⟩
    · cases ho
      obtain rfl := hR.e4 (hpre ⟨4, .data⟩ (by simp) rfl)
      clear hR hpre hcl
      unfold StepIn fr41
      go_simp
      exact ⟨_, _, _, _, _, _, _, _, _, rfl, fun _ => ⟨rfl, { HR.out with e5 := fun _ => rfl }⟩, fun e => absurd (show L 8 = true from e) (by rw [h8]; decide)⟩
    · cases ho
      clear hR hpre hcl
      unfold StepIn fr41
      go_simp
      exact ⟨_, _, _, _, _, _, _, _, _, rfl, fun _ => ⟨rfl, { HR.out with e6 := fun _ => rfl }⟩, fun e => absurd (show L 8 = true from e) (by rw [h8]; decide)⟩
    · cases ho
      obtain rfl := hR.e6 (hpre ⟨6, .data⟩ (by simp) rfl)
      clear hR hpre hcl
      unfold StepIn fr41
      go_simp
      exact ⟨_, _, _, _, _, _, _, _, _, rfl, fun _ => ⟨rfl, { HR.out with e7 := fun _ => rfl }⟩, fun e => absurd (show L 8 = true from e) (by rw [h8]; decide)⟩
    · cases ho
      obtain rfl := hR.e3 (hpre ⟨3, .data⟩ (by simp) rfl)
      obtain rfl := hR.e5 (hpre ⟨5, .data⟩ (by simp) rfl)
      obtain rfl := hR.e7 (hpre ⟨7, .data⟩ (by simp) rfl)
      clear hR hpre hcl
      unfold StepIn fr41
      go_simp
      refine ⟨trivial, (by intro h; cases h), CallsIn.mono (callsIn_wide.2 Hput.out) ?_⟩
      rintro e w3 ⟨⟨b, rfl⟩, hq⟩
      exact ⟨_, _, _, _, _, _, _, _, _, rfl, (nomatch ·), fun _ => hq⟩
  · rintro L a w1 hall ⟨x65, x66, x67, x68, x69, x70, x71, x72, x73, rfl, hJ1, hJ2⟩
    exact HQ.out _ (hJ2 (hall 8 (by decide))) _ _ _ _ _ _ _ _ _

structure R21 (pb off g k cv cw cx : Nat) (Av Bx : Option Addr) (want : List RowT) (x : RowT) (Z : Nat → Prop) (W : World) (M M1 : List RowT) (A1 : Option Addr) (m1 c1 : Nat) (b1 : Bool) (q : Nat) (L : Nat → Bool) (w : World) (x75 x76 x77 x78 x79 x80 x81 x82 x83 x84 x85 x74 x86 x87 x11 x12 : Value) : Prop where
  hb : Below W.heap.size W w
  e0 : L 0 = true → x75 = .pointer (some ⟨pb, off, none⟩)
  e1 : L 1 = true → x76 = .pointer (some ⟨pb, off, none⟩)
  e2 : L 2 = true → x77 = .pointer (some ⟨pb, off + 1, none⟩)
  e3 : L 3 = true → x78 = .agg #[.slice Av M.length cv]
  e4 : L 4 = true → x79 = .slice (some ⟨g, 0, none⟩) want.length cw
  e5 : L 5 = true → x80 = .int .i64 ((k : Int) + 1)
  e6 : L 6 = true → x81 = .int .i64 (k : Int)
  e7 : L 7 = true → x82 = .pointer (some ⟨g, k * 2, none⟩)
  e8 : L 8 = true → x83 = .pointer (some ⟨g, k * 2, none⟩)
  e9 : L 9 = true → x84 = .slice Bx x.1.length cx
  e10 : L 10 = true → x85 = .tuple #[.agg #[.slice A1 m1 c1], .bool b1] ∧ RefIs (fun j => Z j ∨ W.heap.size ≤ j) w (.slice A1 m1 c1) M1
  e11 : L 11 = true → x74 = .tuple #[.agg #[.slice A1 m1 c1], .bool b1]
  e12 : L 12 = true → x86 = .agg #[.slice A1 m1 c1]
  e13 : L 13 = true → x87 = .bool b1
  e14 : L 14 = true → x11 = .pointer (some ⟨q, 0, none⟩) ∧ W.heap.size ≤ q ∧ ∃ u, Boxed w q 27 u
  e15 : L 15 = true → Boxed w q 27 (.slice A1 m1 c1)
  e16 : L 16 = true → x12 = .bool b1

theorem R21.new {pb off g k cv cw cx : Nat} {Av Bx : Option Addr} {want : List RowT} {x : RowT} {Z : Nat → Prop} {W : World} {M M1 : List RowT} {A1 : Option Addr} {m1 c1 : Nat} {b1 : Bool} {q : Nat} {L : Nat → Bool} {w w1 : World} {x75 x76 x77 x78 x79 x80 x81 x82 x83 x84 x85 x74 x86 x87 x11 x12 : Value} (h : R21 pb off g k cv cw cx Av Bx want x Z W M M1 A1 m1 c1 b1 q L w x75 x76 x77 x78 x79 x80 x81 x82 x83 x84 x85 x74 x86 x87 x11 x12) (kb : Below w.heap.size w w1) : R21 pb off g k cv cw cx Av Bx want x Z W M M1 A1 m1 c1 b1 q L w1 x75 x76 x77 x78 x79 x80 x81 x82 x83 x84 x85 x74 x86 x87 x11 x12 :=
  { h with
    hb := h.hb.trans (kb.mono h.hb.size)
    e10 := fun e => ⟨(h.e10 e).1, (h.e10 e).2.new kb⟩
    e14 := fun e => by
      obtain ⟨h1, h2, u, h3⟩ := h.e14 e
      exact ⟨h1, h2, u, boxed_new h3 kb⟩
    e15 := fun e => boxed_new (h.e15 e) kb }

def J21 (sp sv : Value) (h0 wb tb kb : Nat) (it : Value) (A : Option Addr) (pn cap : Nat) (u10 : Value) (y13 y14 y15 y16 y17 y18 y19 y20 y21 y22 y23 y24 y25 y26 y27 y28 y29 y30 y31 y32 y33 y34 y35 y36 y37 y38 y39 y40 y41 y42 y43 y44 y45 y46 y47 y48 y49 y50 y51 y52 y53 y54 y55 y56 y57 y58 y59 y60 y61 y62 y63 y64 y65 y66 y67 y68 y69 y70 y71 y72 y73 y88 y89 y90 y91 y92 y93 y94 y95 y96 y97 y98 y99 y100 y101 y102 y103 y104 y105 y106 y107 y108 y109 y110 y111 y112 y113 y114 y115 y116 y117 y118 y119 y120 y121 y122 y123 y124 y125 y126 y127 y128 : Value) (pb off g k cv cw cx : Nat) (Av Bx : Option Addr) (want : List RowT) (x : RowT) (Z : Nat → Prop) (W : World) (M M1 : List RowT) (m1 : Nat) (L : Nat → Bool) (a : Act) (w : World) : Prop :=
  ∃ A1 c1 b1 q x75 x76 x77 x78 x79 x80 x81 x82 x83 x84 x85 x74 x86 x87 x11 x12, a = (fr41 sp sv h0 wb tb kb it A pn cap u10 x11 x12 y13 y14 y15 y16 y17 y18 y19 y20 y21 y22 y23 y24 y25 y26 y27 y28 y29 y30 y31 y32 y33 y34 y35 y36 y37 y38 y39 y40 y41 y42 y43 y44 y45 y46 y47 y48 y49 y50 y51 y52 y53 y54 y55 y56 y57 y58 y59 y60 y61 y62 y63 y64 y65 y66 y67 y68 y69 y70 y71 y72 y73 x74 x75 x76 x77 x78 x79 x80 x81 x82 x83 x84 x85 x86 x87 y88 y89 y90 y91 y92 y93 y94 y95 y96 y97 y98 y99 y100 y101 y102 y103 y104 y105 y106 y107 y108 y109 y110 y111 y112 y113 y114 y115 y116 y117 y118 y119 y120 y121 y122 y123 y124 y125 y126 y127 y128) ∧ R21 pb off g k cv cw cx Av Bx want x Z W M M1 A1 m1 c1 b1 q L w x75 x76 x77 x78 x79 x80 x81 x82 x83 x84 x85 x74 x86 x87 x11 x12

set_option maxHeartbeats 4000000 in
set_option maxRecDepth 100000 in
theorem g21_i (l n : Nat) (Q : Exit → Act → World → Prop) (W : World) (sp sv : Value) (h0 wb tb kb : Nat) (it : Value) (A : Option Addr) (pn cap : Nat) (u10 : Value) (B0 pb off : Nat) (dov who val nv turn kk : Int) (Ak : Option Addr) (ck : Nat) (key : List Int) (vw : Value) (want : List RowT) (t k : Nat) (T : AT) (v : Value) (L0 M : List RowT) (ks : List (List Int)) (Z : Nat → Prop) (x : RowT) (hC : Cx W B0 h0 pb off wb tb kb dov who val nv Ak ck key vw want turn kk) (hkk : kk = (k : Int) + 1)
    (hP : Pq Z W pb off t T v L0 M ks) (hx : want[k]? = some x) (hwl : want.length ≤ 2600000000000) (y11 y12 y13 y14 y15 y16 y17 y18 y19 y20 y21 y22 y23 y24 y25 y26 y27 y28 y29 y30 y31 y32 y33 y34 y35 y36 y37 y38 y39 y40 y41 y42 y43 y44 y45 y46 y47 y48 y49 y50 y51 y52 y53 y54 y55 y56 y57 y58 y59 y60 y61 y62 y63 y64 y65 y66 y67 y68 y69 y70 y71 y72 y73 y74 y75 y76 y77 y78 y79 y80 y81 y82 y83 y84 y85 y86 y87 y88 y89 y90 y91 y92 y93 y94 y95 y96 y97 y98 y99 y100 y101 y102 y103 y104 y105 y106 y107 y108 y109 y110 y111 y112 y113 y114 y115 y116 y117 y118 y119 y120 y121 y122 y123 y124 y125 y126 y127 y128 : Value)
    (hQ : ∀ w' q A1 c1, Below W.heap.size W w' → W.heap.size ≤ q → Boxed w' q 27 (.slice A1 (takeR M x.1).length c1) → RefIs (fun j => Z j ∨ W.heap.size ≤ j) w' (.slice A1 (takeR M x.1).length c1) (takeR M x.1) → ∀ x75 x76 x77 x78 x79 x80 x81 x82 x83 x84 x85 x74 x86 x87 x12, Q .normal (fr41 sp sv h0 wb tb kb it A pn cap u10 (.pointer (some ⟨q, 0, none⟩)) x12 y13 y14 y15 y16 y17 y18 y19 y20 y21 y22 y23 y24 y25 y26 y27 y28 y29 y30 y31 y32 y33 y34 y35 y36 y37 y38 y39 y40 y41 y42 y43 y44 y45 y46 y47 y48 y49 y50 y51 y52 y53 y54 y55 y56 y57 y58 y59 y60 y61 y62 y63 y64 y65 y66 y67 y68 y69 y70 y71 y72 y73 x74 x75 x76 x77 x78 x79 x80 x81 x82 x83 x84 x85 x86 x87 y88 y89 y90 y91 y92 y93 y94 y95 y96 y97 y98 y99 y100 y101 y102 y103 y104 y105 y106 y107 y108 y109 y110 y111 y112 y113 y114 y115 y116 y117 y118 y119 y120 y121 y122 y123 y124 y125 y126 y127 y128) w') : g21.wpIn (Fence.wide.inRound l) n Try.prog Q (fr41 sp sv h0 wb tb kb it A pn cap u10 y11 y12 y13 y14 y15 y16 y17 y18 y19 y20 y21 y22 y23 y24 y25 y26 y27 y28 y29 y30 y31 y32 y33 y34 y35 y36 y37 y38 y39 y40 y41 y42 y43 y44 y45 y46 y47 y48 y49 y50 y51 y52 y53 y54 y55 y56 y57 y58 y59 y60 y61 y62 y63 y64 y65 y66 y67 y68 y69 y70 y71 y72 y73 y74 y75 y76 y77 y78 y79 y80 y81 y82 y83 y84 y85 y86 y87 y88 y89 y90 y91 y92 y93 y94 y95 y96 y97 y98 y99 y100 y101 y102 y103 y104 y105 y106 y107 y108 y109 y110 y111 y112 y113 y114 y115 y116 y117 y118 y119 y120 y121 y122 y123 y124 y125 y126 y127 y128) W := by
  subst hkk
  obtain ⟨Av, cv, rfl⟩ := hP.ref.form
  obtain ⟨Aw, cw, rfl⟩ := hC.rw.form
  obtain ⟨g, Bx, cx, rfl, hc1, hc2, hrd, hxc, -⟩ := hC.rw.row hx
  have hkl := idx_lt hx
  have hcp : W.cell? ⟨h0, 0, none⟩ = some (.pointer (some ⟨pb, off, none⟩)) := hC.bp.cell
  have hcv := hP.c1
  have hcw := hC.bw.cell
  have hck := hC.bk.cell
  have hlens : ∀ x ∈ M, x.1.length ≤ 35184372087808 := fun x hx => hP.tri.ksl _ (hP.mks x hx)
  have HP := Lib.hid hP
  have HQ := Lib.hid hQ
  have Hrd := Lib.hid hrd
  have Hcp := Lib.hid hcp
  have Hcv := Lib.hid hcv
  have Hcw := Lib.hid hcw
  have Hck := Lib.hid hck
  have Hc1 := Lib.hid hc1
  have Hlens := Lib.hid hlens
  have hk0 : (0 : Int) ≤ (k : Int) := by omega
  have hk1 : (k : Int) < (want.length : Int) := by omega
  have hwk : IntKind.i64.wrap (k : Int) = (k : Int) := IntWalk.i64_in _ ⟨by omega, by omega⟩
  clear hC hP hQ hx hrd hcp hcv hcw hck hc1 hc2 hlens
  unfold g21 c41 r41 b41 w41 fr41
  dsimp only [Try.f41, bodyOf, sqF, sqS, cdT, bkB, lpB, rfB]
  refine wpIn_region_closed (by kernel_rfl) (by kernel_rfl) (J21 sp sv h0 wb tb kb it A pn cap u10 y13 y14 y15 y16 y17 y18 y19 y20 y21 y22 y23 y24 y25 y26 y27 y28 y29 y30 y31 y32 y33 y34 y35 y36 y37 y38 y39 y40 y41 y42 y43 y44 y45 y46 y47 y48 y49 y50 y51 y52 y53 y54 y55 y56 y57 y58 y59 y60 y61 y62 y63 y64 y65 y66 y67 y68 y69 y70 y71 y72 y73 y88 y89 y90 y91 y92 y93 y94 y95 y96 y97 y98 y99 y100 y101 y102 y103 y104 y105 y106 y107 y108 y109 y110 y111 y112 y113 y114 y115 y116 y117 y118 y119 y120 y121 y122 y123 y124 y125 y126 y127 y128 pb off g k cv cw cx Av Bx want x Z W M (takeR M x.1) (takeR M x.1).length) ?_ ?_ ?_
  · exact ⟨none, 0, false, 0, y75, y76, y77, y78, y79, y80, y81, y82, y83, y84, y85, y74, y86, y87, y11, y12, rfl, ⟨(Below.refl _ _).drew, (nomatch ·), (nomatch ·), (nomatch ·), (nomatch ·), (nomatch ·), (nomatch ·), (nomatch ·), (nomatch ·), (nomatch ·), (nomatch ·), (nomatch ·), (nomatch ·), (nomatch ·), (nomatch ·), (nomatch ·), (nomatch ·), (nomatch ·)⟩⟩
  · intro i o L a w1 ho hL hpre hcl hJJ
    have hi : i < 17 := by
      rcases Nat.lt_or_ge i 17 with h | h
      · exact h
      · rw [Array.getElem?_eq_none (by simpa using h)] at ho; cases ho
    obtain ⟨A1, c1, b1, q, x75, x76, x77, x78, x79, x80, x81, x82, x83, x84, x85, x74, x86, x87, x11, x12, rfl, hR⟩ := hJJ
    have HR := Lib.hid hR
    have hBB := hR.hb
    have hcp : w1.cell? ⟨h0, 0, none⟩ = some (.pointer (some ⟨pb, off, none⟩)) := (hBB.cell (p := ⟨h0, 0, none⟩) (cell_lt Hcp.out)).trans Hcp.out
    have hcv : w1.cell? ⟨pb, off + 1, none⟩ = some (.slice Av M.length cv) := (hBB.cell (p := ⟨pb, off + 1, none⟩) (cell_lt Hcv.out)).trans Hcv.out
    have hcw : w1.cell? ⟨wb, 0, none⟩ = some (.slice (some ⟨g, 0, none⟩) want.length cw) := (hBB.cell (p := ⟨wb, 0, none⟩) (cell_lt Hcw.out)).trans Hcw.out
    have hck : w1.cell? ⟨kb, 0, none⟩ = some (.int .i64 ((k : Int) + 1)) := (hBB.cell (p := ⟨kb, 0, none⟩) (cell_lt Hck.out)).trans Hck.out
    have hc1 : w1.cell? ⟨g, k * 2, none⟩ = some (.slice Bx x.1.length cx) := (hBB.cell (p := ⟨g, k * 2, none⟩) (cell_lt Hc1.out)).trans Hc1.out
    have c11 : L 11 = true → L 10 = true := fun h => hcl 11 _ rfl h ⟨10, .data⟩ (by simp) rfl
    have c12 : L 12 = true → L 11 = true := fun h => hcl 12 _ rfl h ⟨11, .data⟩ (by simp) rfl
    have c13 : L 13 = true → L 11 = true := fun h => hcl 13 _ rfl h ⟨11, .data⟩ (by simp) rfl
    have c15 : L 15 = true → L 12 = true := fun h => hcl 15 _ rfl h ⟨12, .data⟩ (by simp) rfl
    have c15b : L 15 = true → L 14 = true := fun h => hcl 15 _ rfl h ⟨14, .data⟩ (by simp) rfl
    have c16 : L 16 = true → L 13 = true := fun h => hcl 16 _ rfl h ⟨13, .data⟩ (by simp) rfl
    rcases (by omega : i = 0 ∨ i = 1 ∨ i = 2 ∨ i = 3 ∨ i = 4 ∨ i = 5 ∨ i = 6 ∨ i = 7 ∨ i = 8 ∨ i = 9 ∨ i = 10 ∨ i = 11 ∨ i = 12 ∨ i = 13 ∨ i = 14 ∨ i = 15 ∨ i = 16) with rfl | rfl | rfl | rfl | rfl | rfl | rfl | rfl | rfl | rfl | rfl | rfl | rfl | rfl | rfl | rfl | rfl
    · cases ho
      clear hR hpre hcl c11 c12 c13 c15 c15b c16 hBB
      unfold StepIn fr41
      go_simp
      exact ⟨A1, c1, b1, q, _, _, _, _, _, _, _, _, _, _, _, _, _, _, _, _, rfl, { HR.out with e0 := fun _ => rfl }⟩
    · cases ho
      obtain rfl := hR.e0 (hpre ⟨0, .data⟩ (by simp) rfl)
      clear hR hpre hcl c11 c12 c13 c15 c15b c16 hBB
      unfold StepIn fr41
      go_simp
      exact ⟨A1, c1, b1, q, _, _, _, _, _, _, _, _, _, _, _, _, _, _, _, _, rfl, { HR.out with e1 := fun _ => rfl }⟩
    · cases ho
      obtain rfl := hR.e1 (hpre ⟨1, .data⟩ (by simp) rfl)
      clear hR hpre hcl c11 c12 c13 c15 c15b c16 hBB
      unfold StepIn fr41
      go_simp
      exact ⟨A1, c1, b1, q, _, _, _, _, _, _, _, _, _, _, _, _, _, _, _, _, rfl, { HR.out with e2 := fun _ => rfl }⟩
    · cases ho
      obtain rfl := hR.e2 (hpre ⟨2, .data⟩ (by simp) rfl)
      clear hR hpre hcl c11 c12 c13 c15 c15b c16 hBB
      unfold StepIn fr41
      go_simp
      exact ⟨A1, c1, b1, q, _, _, _, _, _, _, _, _, _, _, _, _, _, _, _, _, rfl, { HR.out with e3 := fun _ => rfl }⟩
    · cases ho
      clear hR hpre hcl c11 c12 c13 c15 c15b c16 hBB
      unfold StepIn fr41
      go_simp
      exact ⟨A1, c1, b1, q, _, _, _, _, _, _, _, _, _, _, _, _, _, _, _, _, rfl, { HR.out with e4 := fun _ => rfl }⟩
    · cases ho
      clear hR hpre hcl c11 c12 c13 c15 c15b c16 hBB
      unfold StepIn fr41
      go_simp
      exact ⟨A1, c1, b1, q, _, _, _, _, _, _, _, _, _, _, _, _, _, _, _, _, rfl, { HR.out with e5 := fun _ => rfl }⟩
    · cases ho
      obtain rfl := hR.e5 (hpre ⟨5, .data⟩ (by simp) rfl)
      clear hR hpre hcl c11 c12 c13 c15 c15b c16 hBB
      unfold StepIn fr41
      go_simp
      exact ⟨A1, c1, b1, q, _, _, _, _, _, _, _, _, _, _, _, _, _, _, _, _, rfl, { HR.out with e6 := fun _ => rfl }⟩
    · cases ho
      obtain rfl := hR.e4 (hpre ⟨4, .data⟩ (by simp) rfl)
      obtain rfl := hR.e6 (hpre ⟨6, .data⟩ (by simp) rfl)
      clear hR hpre hcl c11 c12 c13 c15 c15b c16 hBB
      unfold StepIn fr41
      go_simp
      exact ⟨A1, c1, b1, q, _, _, _, _, _, _, _, _, _, _, _, _, _, _, _, _, rfl, { HR.out with e7 := fun _ => rfl }⟩
    · cases ho
      obtain rfl := hR.e7 (hpre ⟨7, .data⟩ (by simp) rfl)
      clear hR hpre hcl c11 c12 c13 c15 c15b c16 hBB
      unfold StepIn fr41
      go_simp
      exact ⟨A1, c1, b1, q, _, _, _, _, _, _, _, _, _, _, _, _, _, _, _, _, rfl, { HR.out with e8 := fun _ => rfl }⟩
    · cases ho
      obtain rfl := hR.e8 (hpre ⟨8, .data⟩ (by simp) rfl)
      clear hR hpre hcl c11 c12 c13 c15 c15b c16 hBB
      unfold StepIn fr41
      go_simp
      exact ⟨A1, c1, b1, q, _, _, _, _, _, _, _, _, _, _, _, _, _, _, _, _, rfl, { HR.out with e9 := fun _ => rfl }⟩
    · cases ho
      obtain rfl := hR.e3 (hpre ⟨3, .data⟩ (by simp) rfl)
      obtain rfl := hR.e9 (hpre ⟨9, .data⟩ (by simp) rfl)
      have hcall := Lib.hid (rtake_i w1 Z _ M Bx cx x.1 (HP.out.ref.new hBB) (by have := HP.out.mlen; omega) Hlens.out (Hrd.out.new hBB).rd)
      have d11 : L 11 = true → False := fun h => by rw [c11 h] at hL; cases hL
      have d12 : L 12 = true → False := fun h => d11 (c12 h)
      have d13 : L 13 = true → False := fun h => d11 (c13 h)
      have d15 : L 15 = true → False := fun h => d12 (c15 h)
      have d16 : L 16 = true → False := fun h => d13 (c16 h)
      have hsz := hBB.size
      clear hR hpre hcl c11 c12 c13 c15 c15b c16 hBB
      replace d11 := Lib.hid d11
      replace d12 := Lib.hid d12
      replace d13 := Lib.hid d13
      replace d15 := Lib.hid d15
      replace d16 := Lib.hid d16
      unfold StepIn fr41
      go_simp
      refine ⟨trivial, (by intro h; cases h), CallsIn.mono (callsIn_wide.2 hcall.out) ?_⟩
      rintro e w3 ⟨v1, rfl, hr1, hb1⟩
      obtain ⟨A1', c1', rfl⟩ := hr1.form
      have hN := HR.out.new hb1
      exact ⟨A1', c1', hasR M x.1, q, _, _, _, _, _, _, _, _, _, _, _, _, _, _, _, _, rfl, { hb := hN.hb, e0 := hN.e0, e1 := hN.e1, e2 := hN.e2, e3 := hN.e3, e4 := hN.e4, e5 := hN.e5, e6 := hN.e6, e7 := hN.e7, e8 := hN.e8, e9 := hN.e9, e10 := fun _ => ⟨rfl, hr1.mono fun j _ h => h.elim .inl fun h => .inr (by omega)⟩, e11 := fun h => (d11.out h).elim, e12 := fun h => (d12.out h).elim, e13 := fun h => (d13.out h).elim, e14 := hN.e14, e15 := fun h => (d15.out h).elim, e16 := fun h => (d16.out h).elim }⟩
    · cases ho
      obtain ⟨rfl, -⟩ := hR.e10 (hpre ⟨10, .data⟩ (by simp) rfl)
      clear hR hpre hcl c11 c12 c13 c15 c15b c16 hBB
      unfold StepIn fr41
      go_simp
      exact ⟨A1, c1, b1, q, _, _, _, _, _, _, _, _, _, _, _, _, _, _, _, _, rfl, { HR.out with e11 := fun _ => rfl }⟩
    · cases ho
      obtain rfl := hR.e11 (hpre ⟨11, .data⟩ (by simp) rfl)
      clear hR hpre hcl c11 c12 c13 c15 c15b c16 hBB
      unfold StepIn fr41
      go_simp
      exact ⟨A1, c1, b1, q, _, _, _, _, _, _, _, _, _, _, _, _, _, _, _, _, rfl, { HR.out with e12 := fun _ => rfl }⟩
    · cases ho
      obtain rfl := hR.e11 (hpre ⟨11, .data⟩ (by simp) rfl)
      clear hR hpre hcl c11 c12 c13 c15 c15b c16 hBB
      unfold StepIn fr41
      go_simp
      exact ⟨A1, c1, b1, q, _, _, _, _, _, _, _, _, _, _, _, _, _, _, _, _, rfl, { HR.out with e13 := fun _ => rfl }⟩
    · cases ho
      have d15 : L 15 = true → False := fun h => by rw [c15b h] at hL; cases hL
      have hsz := hBB.size
      have hN := Lib.hid (hR.new ((Below.refl _ w1).alloc (Nat.le_refl _) (.cells #[.slice none 0 0] 27)))
      have hbx : Hid (Boxed (w1.alloc (.cells #[.slice none 0 0] 27)) w1.heap.size 27 (.slice none 0 0)) := Lib.hid (heap_alloc_eq _ _)
      replace d15 := Lib.hid d15
      clear hR hpre hcl c11 c12 c13 c15 c15b c16 hBB
      unfold StepIn fr41
      go_simp
      exact ⟨A1, c1, b1, w1.heap.size, _, _, _, _, _, _, _, _, _, _, _, _, _, _, _, _, rfl, { hb := hN.out.hb, e0 := hN.out.e0, e1 := hN.out.e1, e2 := hN.out.e2, e3 := hN.out.e3, e4 := hN.out.e4, e5 := hN.out.e5, e6 := hN.out.e6, e7 := hN.out.e7, e8 := hN.out.e8, e9 := hN.out.e9, e10 := hN.out.e10, e11 := hN.out.e11, e12 := hN.out.e12, e13 := hN.out.e13, e14 := fun _ => ⟨rfl, hsz, _, hbx.out⟩, e15 := fun h => (d15.out h).elim, e16 := hN.out.e16 }⟩
    · cases ho
      obtain ⟨rfl, hq1, u, hq2⟩ := hR.e14 (hpre ⟨14, .data⟩ (by simp) rfl)
      obtain rfl := hR.e12 (hpre ⟨12, .data⟩ (by simp) rfl)
      have hF : Fr (fun j => j = q) w1 (w1.setCell ⟨q, 0, none⟩ (.slice A1 (takeR M x.1).length c1)) := (Fr.refl (fun j => j = q) w1).setCell (p := ⟨q, 0, none⟩) (.inl rfl) _
      have hr10 : Hid (L 10 = true → RefIs (fun j => Z j ∨ W.heap.size ≤ j) (w1.setCell ⟨q, 0, none⟩ (.slice A1 (takeR M x.1).length c1)) (.slice A1 (takeR M x.1).length c1) (takeR M x.1)) := Lib.hid fun h => (hR.e10 h).2.frame hF fun j c t f hS hj e => by
        subst hS
        rw [hq2] at hj
        injection hj with hj
        injection hj with _ hj
        rw [← hj] at e
        rcases e with e | e <;> cases e
      have hb15 : Hid (Below W.heap.size W (w1.setCell ⟨q, 0, none⟩ (.slice A1 (takeR M x.1).length c1))) := Lib.hid (hBB.trans (hF.below hBB.size fun j e => by omega))
      have hbx : Hid (Boxed (w1.setCell ⟨q, 0, none⟩ (.slice A1 (takeR M x.1).length c1)) q 27 (.slice A1 (takeR M x.1).length c1)) := Lib.hid (hq2.set _)
      have hqc := hq2.cell
      have hqf := hq2.frozen
      clear hF hq2 hR hpre hcl c11 c12 c13 c15 c15b c16 hBB
      unfold StepIn fr41
      go_simp
      exact ⟨A1, c1, b1, q, _, _, _, _, _, _, _, _, _, _, _, _, _, _, _, _, rfl, { HR.out with hb := hb15.out, e10 := fun h => ⟨(HR.out.e10 h).1, hr10.out h⟩, e14 := fun h => ⟨rfl, hq1, _, hbx.out⟩, e15 := fun _ => hbx.out }⟩
    · cases ho
      obtain rfl := hR.e13 (hpre ⟨13, .data⟩ (by simp) rfl)
      clear hR hpre hcl c11 c12 c13 c15 c15b c16 hBB
      unfold StepIn fr41
      go_simp
      exact ⟨A1, c1, b1, q, _, _, _, _, _, _, _, _, _, _, _, _, _, _, _, _, rfl, { HR.out with e16 := fun _ => rfl }⟩
  · rintro L a w1 hall ⟨A1, c1, b1, q, x75, x76, x77, x78, x79, x80, x81, x82, x83, x84, x85, x74, x86, x87, x11, x12, rfl, hR⟩
    obtain ⟨rfl, hq1, -⟩ := hR.e14 (hall 14 (by decide))
    exact HQ.out w1 q A1 c1 hR.hb hq1 (hR.e15 (hall 15 (by decide))) (hR.e10 (hall 10 (by decide))).2 _ _ _ _ _ _ _ _ _ _ _ _ _ _ _
end Go.Proofs.Ytioflglfnalcaaa

/- TriePlays: what turn 2 of walked does in a round: printed by gen_pl.py. -/
namespace Go.Proofs.Ytioflglfnalcaaa
open Go.RowKit

attribute [local go_sem] Oper.semAt_some

set_option maxHeartbeats 4000000 in
set_option maxRecDepth 100000 in
theorem c41_i (l n : Nat) (Q : Exit → Act → World → Prop) (W : World) (B0 h0 pb off wb tb kb t k : Nat) (dov who val nv turn : Int) (Ak : Option Addr) (ck : Nat) (key : List Int) (vw : Value) (want : List RowT) (T : AT) (v : Value) (L : List RowT) (ks : List (List Int)) (Z : Nat → Prop)
    (A : Option Addr) (cap : Nat) (x : RowT) (it sp sv u10 : Value)
    (hCx : Cx W B0 h0 pb off wb tb kb dov who val nv Ak ck key vw want turn ((k : Int) + 1)) (hP : Pq Z W pb off t T v L L ks) (hx : want[k]? = some x) (hxl : x.1.length ≤ 35184372087808) (hwl : want.length ≤ 2600000000000) (hA : RdT W A x.1) (hkey : key ∈ ks) (hB0 : ∀ j, T.own j → B0 ≤ j) (hBp : B0 ≤ pb)
    (hQ : ∀ W' T' v' L', Cx W' B0 h0 pb off wb tb kb dov who val nv Ak ck key vw want turn ((k : Int) + 1) → Pq (fun j => Z j ∨ W.heap.size ≤ j) W' pb off t T' v' L' L' ks → Mv T T' pb off W W' → RdT W' A x.1 → ∀ y11 y12 y13 y14 y15 y16 y17 y18 y19 y20 y21 y22 y23 y24 y25 y26 y27 y28 y29 y30 y31 y32 y33 y34 y35 y36 y37 y38 y39 y40 y41 y42 y43 y44 y45 y46 y47 y48 y49 y50 y51 y52 y53 y54 y55 y56 y57 y58 y59 y60 y61 y62 y63 y64 y65 y66 y67 y68 y69 y70 y71 y72 y73 y74 y75 y76 y77 y78 y79 y80 y81 y82 y83 y84 y85 y86 y87 y88 y89 y90 y91 y92 y93 y94 y95 y96 y97 y98 y99 y100 y101 y102 y103 y104 y105 y106 y107 y108 y109 y110 y111 y112 y113 y114 y115 y116 y117 y118 y119 y120 y121 y122 y123 y124 y125 y126 y127 y128, Q .normal (fr41 sp sv h0 wb tb kb it A x.1.length cap u10 y11 y12 y13 y14 y15 y16 y17 y18 y19 y20 y21 y22 y23 y24 y25 y26 y27 y28 y29 y30 y31 y32 y33 y34 y35 y36 y37 y38 y39 y40 y41 y42 y43 y44 y45 y46 y47 y48 y49 y50 y51 y52 y53 y54 y55 y56 y57 y58 y59 y60 y61 y62 y63 y64 y65 y66 y67 y68 y69 y70 y71 y72 y73 y74 y75 y76 y77 y78 y79 y80 y81 y82 y83 y84 y85 y86 y87 y88 y89 y90 y91 y92 y93 y94 y95 y96 y97 y98 y99 y100 y101 y102 y103 y104 y105 y106 y107 y108 y109 y110 y111 y112 y113 y114 y115 y116 y117 y118 y119 y120 y121 y122 y123 y124 y125 y126 y127 y128) W')
    (y11 y12 y13 y14 y15 y16 y17 y18 y19 y20 y21 y22 y23 y24 y25 y26 y27 y28 y29 y30 y31 y32 y33 y34 y35 y36 y37 y38 y39 y40 y41 y42 y43 y44 y45 y46 y47 y48 y49 y50 y51 y52 y53 y54 y55 y56 y57 y58 y59 y60 y61 y62 y63 y64 y65 y66 y67 y68 y69 y70 y71 y72 y73 y74 y75 y76 y77 y78 y79 y80 y81 y82 y83 y84 y85 y86 y87 y88 y89 y90 y91 y92 y93 y94 y95 y96 y97 y98 y99 y100 y101 y102 y103 y104 y105 y106 y107 y108 y109 y110 y111 y112 y113 y114 y115 y116 y117 y118 y119 y120 y121 y122 y123 y124 y125 y126 y127 y128 : Value) : c41.wpIn (Fence.wide.inRound l) n Try.prog Q (fr41 sp sv h0 wb tb kb it A x.1.length cap u10 y11 y12 y13 y14 y15 y16 y17 y18 y19 y20 y21 y22 y23 y24 y25 y26 y27 y28 y29 y30 y31 y32 y33 y34 y35 y36 y37 y38 y39 y40 y41 y42 y43 y44 y45 y46 y47 y48 y49 y50 y51 y52 y53 y54 y55 y56 y57 y58 y59 y60 y61 y62 y63 y64 y65 y66 y67 y68 y69 y70 y71 y72 y73 y74 y75 y76 y77 y78 y79 y80 y81 y82 y83 y84 y85 y86 y87 y88 y89 y90 y91 y92 y93 y94 y95 y96 y97 y98 y99 y100 y101 y102 y103 y104 y105 y106 y107 y108 y109 y110 y111 y112 y113 y114 y115 y116 y117 y118 y119 y120 y121 y122 y123 y124 y125 y126 y127 y128) W := by
  have hpb := hP.lt
  have HQ := Lib.hid hQ
  have M0 := Mv.refl hP
  have cp := hCx.bp.cell
  have hct := hP.c0
  have htake := Lib.hid (tri_take hP.tri A cap x.1 hxl hA.rd)
  have HP := Lib.hid hP
  have HC := Lib.hid hCx
  have HA := Lib.hid hA
  replace M0 := Lib.hid M0
  clear hP hCx hA hQ
  unfold c41 r41 b41 w41 fr41
  dsimp only [Try.f41, bodyOf, sqF, sqS, cdT, bkB, lpB, rfB]
  gi_wp2_with fail
  refine callR htake.out ?_
  rintro e Wa ⟨rfl, Ta, hTa, hFa, hga⟩
  have hPa := HP.out.setTri hTa hFa hga
  have hMa := M0.out.tri hpb HP.out.nown hFa hga
  have hCa := HC.out.frame hFa (nice_own HP.out.tri hB0)
  have hAa := rdT_nice HA.out hFa (nice_own HP.out.tri hB0)
  have hB0a : ∀ j, Ta.own j → B0 ≤ j := fun j hj => by
    rcases hga j hj with h | h
    · exact hB0 j h
    · omega
  have hsa := hFa.size
  have hTd : TrI Wa.drew t Ta (takeR L x.1) ks := hTa.fr (Fr.refl Nob Wa).drew
  have hput : Hid (Calls Try.prog 14 #[ptr t, .slice Ak key.length ck, .int .i64 val] Wa.drew (fun e w' => (∃ b, e = .returned (.bool b)) ∧ ∃ T', TrI w' t T' (putR (takeR L x.1) key val) ks ∧ Fr Ta.own Wa w' ∧ ∀ j, T'.own j → Ta.own j ∨ Wa.heap.size ≤ j)) :=
    Lib.hid ((tri_put hTd Ak ck key val hkey (by exact hCa.rk) (fun ad e hne ho => by have := hCa.lk ad e hne; have := hB0a _ ho; omega)).mono fun e w' ⟨h1, T', h2, h3, h4⟩ => ⟨⟨_, h1⟩, T', h2, (Fr.refl Ta.own Wa).drew.trans h3 (fun _ _ h => h), h4⟩)
  have hct := hPa.c0
  replace hPa := Lib.hid hPa
  replace hMa := Lib.hid hMa
  replace hCa := Lib.hid hCa
  replace hAa := Lib.hid hAa
  clear HP M0 HC HA htake hTa hFa hga hTd
  gi_upto_region 21 with fail
  refine g20_i l n _ Wa sp sv h0 wb tb kb it A x.1.length cap u10 B0 pb off dov who val nv turn ((k : Int) + 1) Ak ck key vw want t _ hCa.out hct hput.out _ _ _ _ _ _ _ _ _ _ _ _ _ _ _ _ _ _ _ _ _ _ _ _ _ _ _ _ _ _ _ _ _ _ _ _ _ _ _ _ _ _ _ _ _ _ _ _ _ _ _ _ _ _ _ _ _ _ _ _ _ _ _ _ _ _ _ _ _ _ _ _ _ _ _ _ _ _ _ _ _ _ _ _ _ _ _ _ _ _ _ _ _ _ _ _ _ _ _ _ _ _ _ _ _ _ _ _ _ _ _ _ _ _ _ _ _ _ ?_
  rintro Wb ⟨Tb, hTb, hFb, hgb⟩
  intro _ _ _ _ _ _ _ _ _
  have hPb := hPa.out.setTri hTb hFb hgb
  have hMb := hMa.out.tri hpb hPa.out.nown hFb hgb
  have hCb := hCa.out.frame hFb (nice_own hPa.out.tri hB0a)
  have hAb := rdT_nice hAa.out hFb (nice_own hPa.out.tri hB0a)
  have hB0b : ∀ j, Tb.own j → B0 ≤ j := fun j hj => by
    rcases hgb j hj with h | h
    · exact hB0a j h
    · omega
  have hsb := hFb.size
  replace hPb := Lib.hid hPb
  replace hMb := Lib.hid hMb
  replace hCb := Lib.hid hCb
  replace hAb := Lib.hid hAb
  clear hPa hMa hCa hAa hput hTb hFb hgb
  unfold fr41
  gi_upto_region 22 with fail
  refine g21_i l n _ Wb sp sv h0 wb tb kb it A x.1.length cap u10 B0 pb off dov who val nv turn ((k : Int) + 1) Ak ck key vw want t k Tb v _ L ks Z x hCb.out rfl hPb.out hx hwl _ _ _ _ _ _ _ _ _ _ _ _ _ _ _ _ _ _ _ _ _ _ _ _ _ _ _ _ _ _ _ _ _ _ _ _ _ _ _ _ _ _ _ _ _ _ _ _ _ _ _ _ _ _ _ _ _ _ _ _ _ _ _ _ _ _ _ _ _ _ _ _ _ _ _ _ _ _ _ _ _ _ _ _ _ _ _ _ _ _ _ _ _ _ _ _ _ _ _ _ _ _ _ _ _ _ _ _ _ _ _ _ _ _ _ _ _ _ ?_
  rintro Wc q A1 c1 hBc hq1 hq2 hr1
  intro _ _ _ _ _ _ _ _ _ _ _ _ _ _ _
  have hPc := hPb.out.new hBc
  have hMc := hMb.out.new hpb hBc
  have hCc := hCb.out.new hBc
  have hAc := hAb.out.new hBc
  have hsc := hBc.size
  have cs2 : Wc.cell? ⟨h0 + 1, 2, none⟩ = some (.slice Ak key.length ck) := by simp [World.cell?, hCc.bs]
  have cs3 : Wc.cell? ⟨h0 + 1, 3, none⟩ = some (.int .i64 val) := by simp [World.cell?, hCc.bs]
  have cq := hq2.cell
  have hml : (takeR L x.1).length ≤ 2550000000000 := Nat.le_trans (List.length_filter_le _ _) hPc.mlen
  have hrput := Lib.hid (rput_i Wc _ _ (takeR L x.1) Ak ck key val hr1 (by omega) (fun y hy => hPc.tri.ksl _ (hPc.mks y ((takeR_mem L x.1 y).1 hy).2)) hCc.rk (hPc.tri.ksl _ hkey))
  replace hPc := Lib.hid hPc
  replace hMc := Lib.hid hMc
  replace hCc := Lib.hid hCc
  replace hAc := Lib.hid hAc
  replace hq2 := Lib.hid hq2
  clear hPb hMb hCb hAb hr1 hBc
  unfold fr41
  gi_wp2_with fail
  refine callR hrput.out ?_
  rintro e Wd ⟨v2, rfl, hr2, hBd⟩
  have hPd := hPc.out.new hBd
  have hMd := hMc.out.new hpb hBd
  have hCd := hCc.out.new hBd
  have hAd := hAc.out.new hBd
  have hqd := boxed_new hq2.out hBd
  have hsd := hBd.size
  obtain ⟨A2, c2, rfl⟩ := hr2.form
  have hF1 : Fr (fun j => j = q) Wd (Wd.setCell ⟨q, 0, none⟩ (.slice A2 (putR (takeR L x.1) key val).length c2)) := (Fr.refl (fun j => j = q) Wd).setCell (p := ⟨q, 0, none⟩) (.inl rfl) _
  have hq3 : ∀ j c ty f, j = q → Wd.heap[j]? = some (.cells c ty f) → ty = 27 := fun j c ty f hS hj => by
    subst hS
    rw [hqd] at hj
    injection hj with hj
    injection hj with _ hj
    exact hj.symm
  have hqown : ∀ j, Tb.own j → ¬ j = q := fun j hj e => by
    subst e
    rcases hPd.tri.ty hj hqd with e | e <;> cases e
  have hqpb : pb ≠ q := fun e => by omega
  have hPe := hPd.frame hF1 hqown (fun e => hqpb e) fun j c ty f hS hj e => by
    have := hq3 j c ty f hS hj
    subst this
    rcases e with e | e <;> cases e
  have hre := hr2.frame hF1 fun j c ty f hS hj e => by
    have := hq3 j c ty f hS hj
    subst this
    rcases e with e | e <;> cases e
  have hnq : Nice B0 Wd (fun j => j = q) := fun j hS => ⟨by omega, fun c ty f hj => .inr (.inr (.inr (hq3 j c ty f hS hj)))⟩
  have hCe := hCd.frame hF1 hnq
  have hAe := rdT_nice hAd hF1 hnq
  have hMe := hMd.free hpb hF1 fun j e => by omega
  have hlp : (putR (takeR L x.1) key val).length ≤ 2550000000000 := by
    have := hPe.tri.len
    exact this
  have hmk : ∀ y ∈ putR (takeR L x.1) key val, y.1 ∈ ks := hPe.tri.lks
  have hPf := hPe.setRef hre hmk hlp
  have hMf := hMe.set (.slice A2 (putR (takeR L x.1) key val).length c2)
  obtain ⟨cpb, hcpb⟩ := hPe.ty
  have hCf := hCe.frame (pb_fr _ pb off (.slice A2 (putR (takeR L x.1) key val).length c2)) (nice_pb hcpb hBp)
  have hAf := rdT_nice hAe (pb_fr _ pb off (.slice A2 (putR (takeR L x.1) key val).length c2)) (nice_pb hcpb hBp)
  have hPz : Pq (fun j => Z j ∨ W.heap.size ≤ j) _ pb off t Tb _ _ _ ks := hPf.mono (Z' := fun j => Z j ∨ W.heap.size ≤ j) fun j _ h => by
    rcases h with (h | h) | h
    · exact .inl h
    · exact .inr (by omega)
    · exact .inr (by omega)
  have cq1 := hqd.cell
  have fq1 := hqd.frozen
  have cpe := hCe.bp.cell
  have cqe : (Wd.setCell ⟨q, 0, none⟩ (.slice A2 (putR (takeR L x.1) key val).length c2)).cell? ⟨q, 0, none⟩ = some (.slice A2 (putR (takeR L x.1) key val).length c2) := (hqd.set _).cell
  have cve := hPe.c1
  have fve := hPe.fz (off + 1)
  have hfin := Lib.hid (HQ.out _ _ _ _ hCf hPz hMf hAf)
  clear HQ hPd hMd hCd hAd hqd hPe hre hCe hAe hMe hPf hMf hCf hAf hPz hF1 hq3 hqown hnq hr2 hBd hcpb hrput hPc hMc hCc hAc hq2 cq
  clear cs2 cs3
  obtain ⟨We, hWe⟩ : ∃ We, We = Wd.setCell ⟨q, 0, none⟩ (.slice A2 (putR (takeR L x.1) key val).length c2) := ⟨_, rfl⟩
  rw [← hWe] at cpe cqe cve fve hfin
  replace hWe := Lib.hid hWe
  gi_upto_region 23 with fail
  rw [← hWe.out]
  gi_wp2
  exact hfin.out _ _ _ _ _ _ _ _ _ _ _ _ _ _ _ _ _ _ _ _ _ _ _ _ _ _ _ _ _ _ _ _ _ _ _ _ _ _ _ _ _ _ _ _ _ _ _ _ _ _ _ _ _ _ _ _ _ _ _ _ _ _ _ _ _ _ _ _ _ _ _ _ _ _ _ _ _ _ _ _ _ _ _ _ _ _ _ _ _ _ _ _ _ _ _ _ _ _ _ _ _ _ _ _ _ _ _ _ _ _ _ _ _ _ _ _ _ _
end Go.Proofs.Ytioflglfnalcaaa

/- TriePlays: one round of walked: printed by gen_pm.py. -/
namespace Go.Proofs.Ytioflglfnalcaaa
open Go.RowKit

attribute [local go_sem] Oper.semAt_some

/-- Cx without the count. -/
structure Cy (W : World) (B0 h0 pb off wb tb : Nat) (dov who val nv : Int) (Ak : Option Addr) (ck : Nat) (key : List Int) (vw : Value) (want : List RowT) (turn : Int) : Prop where
  bp : Boxed W h0 35 (.pointer (some ⟨pb, off, none⟩))
  bs : W.heap[h0 + 1]? = some (.cells #[.int .i64 dov, .int .i64 who, .slice Ak key.length ck, .int .i64 val, .int .i64 nv] 38 (0, 0))
  br : Boxed W (h0 + 2) 4 (.bool false)
  bw : Boxed W wb 25 vw
  bt : Boxed W tb 3 (.int .i64 turn)
  rw : RefIs AnyZ W vw want
  rk : RdI W Ak key
  lk : ∀ ad, Ak = some ad → key ≠ [] → ad.block < B0
section
variable {W W' : World} {B0 h0 pb off wb tb kb : Nat} {dov who val nv : Int} {Ak : Option Addr} {ck : Nat} {key : List Int} {vw : Value} {want : List RowT} {turn kk : Int} {S : Nat → Prop}
theorem Cy.frame (h : Cy W B0 h0 pb off wb tb dov who val nv Ak ck key vw want turn) (k : Fr S W W') (hs : Nice B0 W S) : Cy W' B0 h0 pb off wb tb dov who val nv Ak ck key vw want turn where
  bp := k.heap h.bp (hs.box h.bp (by decide))
  bs := k.heap h.bs (hs.box h.bs (by decide))
  br := k.heap h.br (hs.box h.br (by decide))
  bw := k.heap h.bw (hs.box h.bw (by decide))
  bt := k.heap h.bt (hs.box h.bt (by decide))
  rw := h.rw.frame k fun j c t f hS hj e => by
    rcases (hs j hS).2 _ _ _ hj with e' | e' | e' | e' <;> subst e' <;> rcases e with e | e <;> cases e
  rk := h.rk.frame k fun ad e hne hS => by have := (hs _ hS).1; have := h.lk ad e hne; omega
  lk := h.lk
theorem Cy.cx (h : Cy W B0 h0 pb off wb tb dov who val nv Ak ck key vw want turn) (hk : Boxed W kb 3 (.int .i64 kk)) : Cx W B0 h0 pb off wb tb kb dov who val nv Ak ck key vw want turn kk :=
  ⟨h.bp, h.bs, h.br, h.bw, h.bt, hk, h.rw, h.rk, h.lk⟩
end

/-- walked's rounds: k of them are over. -/
def IW (Z0 : Nat → Prop) (T0 : AT) (WB : World) (pb off t kb : Nat) (ks : List (List Int)) (k : Nat) (W : World) : Prop :=
  ∃ T v L, Mv T0 T pb off WB W ∧ Boxed W kb 3 (.int .i64 (k : Int)) ∧ Pq (fun j => (j < kb + 1 ∧ Z0 j) ∨ kb + 3 ≤ j) W pb off t T v L L ks ∧ ∀ j, T.own j → T0.own j ∨ kb + 3 ≤ j

section
variable {Z0 : Nat → Prop} {T0 : AT} {WB W W' : World} {pb off t kb : Nat} {ks : List (List Int)} {k : Nat}
theorem IW.two (h : IW Z0 T0 WB pb off t kb ks k W) (hkb : kb = WB.heap.size) (h0 : ∀ j, T0.own j → j < WB.heap.size) (hpb : pb < WB.heap.size) (hf : Fr (Two (kb + 1)) W W') : IW Z0 T0 WB pb off t kb ks k W' := by
  obtain ⟨T, v, L, h1, h2, h3, h4⟩ := h
  refine ⟨T, v, L, h1.free hpb hf fun j hj => ?_, hf.heap h2 fun hj => ?_, h3.frame hf (fun j hj hS => ?_) (fun hj => ?_) fun j c ty f hS _ _ hz => ?_, h4⟩
  · rcases hj with rfl | rfl <;> omega
  · rcases hj with h | h <;> omega
  · rcases h4 j hj with h | h
    · have := h0 j h
      rcases hS with rfl | rfl <;> omega
    · rcases hS with rfl | rfl <;> omega
  · rcases hj with h | h <;> omega
  · rcases hS with rfl | rfl <;> rcases hz with h | h <;> omega
end

theorem own_nice {W W' : World} {B0 B : Nat} {S : Nat → Prop} {v : Value} {n : Nat} {xs : List Value} (h : W.ownsRow B 21 1 v n xs) (k : Fr S W W') (hs : Nice B0 W S) : W'.ownsRow B 21 1 v n xs := by
  refine ⟨h.1, ?_⟩
  rcases h.2 with h2 | ⟨g, cap, cur, hv, hg, hh, r⟩
  · exact .inl h2
  · exact .inr ⟨g, cap, cur, hv, hg, k.heap hh (hs.box hh (by decide)), r⟩

/-- A round's end: the row that was handed out has been written over. -/
theorem round_end {Z0 : Nat → Prop} {T0 T T' : AT} {WB W0 W2 W3 W4 W5 : World} {pb off t kb : Nat} {ks : List (List Int)} {k : Nat} {v' : Value} {L' : List RowT} {va : Value} {n : Nat} {xs : List Value} (hkb : kb = WB.heap.size) (h0 : ∀ j, T0.own j → j < WB.heap.size) (hpb : pb < WB.heap.size)
    (hsz : kb + 3 ≤ W0.heap.size) (hs02 : W0.heap.size ≤ W2.heap.size) (hF23 : Fr (fun j => j = kb) W2 W3) (hT : ∀ j, T.own j → T0.own j ∨ kb + 3 ≤ j)
    (hM3 : Mv T0 T pb off WB W3) (hM : Mv T T' pb off W3 W4) (hk : Boxed W4 kb 3 (.int .i64 ((k : Int) + 1))) (hP : Pq (fun j => (j < W0.heap.size ∧ ((j < kb + 1 ∧ Z0 j) ∨ kb + 3 ≤ j)) ∨ W3.heap.size ≤ j) W4 pb off t T' v' L' L' ks)
    (ho : W4.ownsRow W0.heap.size 21 1 va n xs) (hlt : ∀ g, va.ownBlock = some g → g < W2.heap.size) (hF : Fr (fun j => va.ownBlock = some j) W4 W5) : (∀ j, Two (kb + 1) j → W5.heap[j]? = W2.heap[j]?) ∧ IW Z0 T0 WB pb off t kb ks (k + 1) W5 := by
  have hg : ∀ j, va.ownBlock = some j → W0.heap.size ≤ j ∧ ∃ c f, W4.heap[j]? = some (.cells c 21 f) := fun j e => by
    rcases ho.2 with ⟨rfl, _⟩ | ⟨g, cap, cur, rfl, hb, hh, _⟩
    · cases e
    · have e' : g = j := by simpa [Value.ownBlock] using e
      subst e'
      exact ⟨hb, _, _, hh⟩
  have hs23 := hF23.size
  refine ⟨fun j hj => ?_, T', v', L', (hM3.trans hM).free hpb hF fun j e => ?_, ?_, ?_, fun j hj => ?_⟩
  · have hjl : j < W0.heap.size := by rcases hj with rfl | rfl <;> omega
    have hj3 : kb + 1 ≤ j ∧ j < kb + 3 := by rcases hj with rfl | rfl <;> omega
    rw [hF.block j (by have := hM.fr.size; omega) (fun e => by have := (hg j e).1; omega), hM.fr.block j (by omega) ?_, hF23.block j (by omega) (by omega)]
    rintro (e | e)
    · rcases hT j e with h | h
      · have := h0 j h; omega
      · omega
    · omega
  · have := (hg j e).1; have := hM3.fr.size; omega
  · rw [show ((k + 1 : Nat) : Int) = (k : Int) + 1 by omega]
    exact hF.heap hk fun e => by have := (hg kb e).1; omega
  · refine (hP.frame hF (fun j hj e => ?_) (fun e => ?_) fun j c ty f e hj ht hz => ?_).mono fun j _ hz => ?_
    · obtain ⟨_, c, f, hc⟩ := hg j e
      rcases hP.tri.ty hj hc with h | h <;> cases h
    · have := (hg pb e).1; omega
    · have h1 := (hg j e).1
      have h2 := hlt j e
      rcases hz with hz | hz
      · omega
      · omega
    · rcases hz with hz | hz
      · exact hz.2
      · right; omega
  · rcases hM.grow j hj with h | h
    · exact hT j h
    · right; omega

/-- What a walk that is left comes to. -/
def IX (Z0 : Nat → Prop) (T0 : AT) (WB : World) (pb off t kb : Nat) (ks : List (List Int)) (nw : Nat) (nv turn : Int) (c : Code) (W : World) : Prop := c = .exit 2 ∧ turn = 0 ∧ ∃ k : Nat, nv ≤ (k : Int) ∧ k ≤ nw ∧ IW Z0 T0 WB pb off t kb ks k W

set_option maxHeartbeats 4000000 in
set_option maxRecDepth 100000 in
theorem r41_i (Z0 : Nat → Prop) (l n : Nat) (WB W2 : World) (B0 h0 pb off wb tb kb t k : Nat) (dov who val nv turn : Int) (Ak : Option Addr) (ck : Nat) (key : List Int) (vw : Value) (want : List RowT) (T0 : AT) (ks : List (List Int)) (A : Option Addr) (cap : Nat) (x : RowT) (it sp sv : Value)
    (hkb : kb = WB.heap.size) (h0l : ∀ j, T0.own j → B0 ≤ j ∧ j < WB.heap.size) (hpb : B0 ≤ pb ∧ pb < WB.heap.size) (hCy : Cy WB B0 h0 pb off wb tb dov who val nv Ak ck key vw want turn) (hN : Nice B0 WB (fun j => T0.own j ∨ j = pb)) (hx : want[k]? = some x) (hxl : x.1.length ≤ 35184372087808) (hwl : want.length ≤ 2600000000000) (hkey : key ∈ ks)
    (hturn : turn = 0 ∨ turn = 1 ∨ turn = 2 ∨ turn = 3) (hnow : RowNow (kb + 1) (IW Z0 T0 WB pb off t kb ks k) A cap x.1 W2) (y11 y12 y13 y14 y15 y16 y17 y18 y19 y20 y21 y22 y23 y24 y25 y26 y27 y28 y29 y30 y31 y32 y33 y34 y35 y36 y37 y38 y39 y40 y41 y42 y43 y44 y45 y46 y47 y48 y49 y50 y51 y52 y53 y54 y55 y56 y57 y58 y59 y60 y61 y62 y63 y64 y65 y66 y67 y68 y69 y70 y71 y72 y73 y74 y75 y76 y77 y78 y79 y80 y81 y82 y83 y84 y85 y86 y87 y88 y89 y90 y91 y92 y93 y94 y95 y96 y97 y98 y99 y100 y101 y102 y103 y104 y105 y106 y107 y108 y109 y110 y111 y112 y113 y114 y115 y116 y117 y118 y119 y120 y121 y122 y123 y124 y125 y126 y127 y128 : Value) :
    r41.wpIn (Fence.wide.inRound l) n Try.prog (rowPost (kb + 1) (IW Z0 T0 WB pb off t kb ks (k + 1)) (IX Z0 T0 WB pb off t kb ks want.length nv turn) W2) (fr41 sp sv h0 wb tb kb it A x.1.length cap (.int .i64 x.2) y11 y12 y13 y14 y15 y16 y17 y18 y19 y20 y21 y22 y23 y24 y25 y26 y27 y28 y29 y30 y31 y32 y33 y34 y35 y36 y37 y38 y39 y40 y41 y42 y43 y44 y45 y46 y47 y48 y49 y50 y51 y52 y53 y54 y55 y56 y57 y58 y59 y60 y61 y62 y63 y64 y65 y66 y67 y68 y69 y70 y71 y72 y73 y74 y75 y76 y77 y78 y79 y80 y81 y82 y83 y84 y85 y86 y87 y88 y89 y90 y91 y92 y93 y94 y95 y96 y97 y98 y99 y100 y101 y102 y103 y104 y105 y106 y107 y108 y109 y110 y111 y112 y113 y114 y115 y116 y117 y118 y119 y120 y121 y122 y123 y124 y125 y126 y127 y128) W2 := by
  obtain ⟨⟨W0, hI0, hF02, hsz, hfr, hown⟩, hrd, hn0, hcap⟩ := hnow
  have hI2 := hI0.two hkb (fun j hj => (h0l j hj).2) hpb.2 hF02
  obtain ⟨T, v, L, hM0, hB0k, hP0, hT0⟩ := hI0
  have hs02 := hF02.size
  -- the state behind the clone
  have hM2 : Mv T0 T pb off WB W2 := hM0.free hpb.2 hF02 fun j hj => by rcases hj with rfl | rfl <;> omega
  have hP2 : Pq (fun j => j < W0.heap.size ∧ ((j < kb + 1 ∧ Z0 j) ∨ kb + 3 ≤ j)) W2 pb off t T v L L ks := by
    refine (hP0.mono (Z' := fun j => j < W0.heap.size ∧ ((j < kb + 1 ∧ Z0 j) ∨ kb + 3 ≤ j)) fun j hj hz => ⟨hj, hz⟩).frame hF02 (fun j hj hS => ?_) (fun hj => ?_) fun j c ty f hS _ _ hz => ?_
    · rcases hT0 j hj with h | h
      · have := (h0l j h).2
        rcases hS with rfl | rfl <;> omega
      · rcases hS with rfl | rfl <;> omega
    · rcases hj with h | h <;> omega
    · rcases hS with rfl | rfl <;> omega
  have hk2 : Boxed W2 kb 3 (.int .i64 (k : Int)) := hF02.heap hB0k fun hj => by rcases hj with h | h <;> omega
  have hC2 : Cy W2 B0 h0 pb off wb tb dov who val nv Ak ck key vw want turn := hCy.frame hM2.fr hN
  have hkl := idx_lt hx
  -- behind the count
  have hB0T : ∀ j, T.own j → B0 ≤ j := fun j hj => by
    rcases hT0 j hj with h | h
    · exact (h0l j h).1
    · omega
  have his := Lib.hid (is_i W2 AnyZ A cap vw want k x hC2.rw hx hxl hrd.rd)
  have hst : Hid (∀ m, ∃ W3, W3 = (W2.drewN m).setCell ⟨kb, 0, none⟩ (.int .i64 ((k : Int) + 1)) ∧ Cx W3 B0 h0 pb off wb tb kb dov who val nv Ak ck key vw want turn ((k : Int) + 1) ∧ Pq (fun j => j < W0.heap.size ∧ ((j < kb + 1 ∧ Z0 j) ∨ kb + 3 ≤ j)) W3 pb off t T v L L ks ∧ Mv T0 T pb off WB W3 ∧ RdT W3 A x.1 ∧
      W3.ownsRow W0.heap.size 21 1 (.slice A x.1.length cap) x.1.length (x.1.map enc32) ∧ Fr (fun j => j = kb) W2 W3) := Lib.hid fun m => by
    have hF : Fr (fun j => j = kb) W2 ((W2.drewN m).setCell ⟨kb, 0, none⟩ (.int .i64 ((k : Int) + 1))) := ((Fr.refl (fun j => j = kb) W2).drewN m).setCell (p := ⟨kb, 0, none⟩) (.inl rfl) _
    have hk2' : Boxed (W2.drewN m) kb 3 (.int .i64 (k : Int)) := hk2
    have hty : ∀ c t f, W2.heap[kb]? = some (.cells c t f) → t = 3 := fun c t f hc => by rw [hk2] at hc; injection hc with hc; injection hc with _ hc; exact hc.symm
    have hC3 : Cy ((W2.drewN m).setCell ⟨kb, 0, none⟩ (.int .i64 ((k : Int) + 1))) B0 h0 pb off wb tb dov who val nv Ak ck key vw want turn := hCy.frame (hM2.free hpb.2 hF fun j e => by omega).fr hN
    refine ⟨_, rfl, hC3.cx (hk2'.set _), hP2.frame hF (fun j hj e => ?_) (fun e => by omega) (fun j c ty f e hj ht _ => ?_), hM2.free hpb.2 hF fun j e => by omega, ?_, ?_, hF⟩
    · subst e
      rcases hP2.tri.ty hj hk2 with h | h <;> cases h
    · subst e
      rcases hty c ty f hj with rfl
      rcases ht with h | h <;> cases h
    · exact RdT.frame hrd hF fun b c f hb e => by
        subst e
        have := hty _ _ _ hb
        cases this
    · refine ⟨hown.1, ?_⟩
      rcases hown.2 with h2 | ⟨g, c, cur, hv, hg, hh, r⟩
      · exact .inl h2
      · exact .inr ⟨g, c, cur, hv, hg, hF.heap hh (fun e => by subst e; have := hty _ _ _ hh; cases this), r⟩
  have hend : Hid (∀ W3 W4 W5 T' v' L', Fr (fun j => j = kb) W2 W3 → Mv T0 T pb off WB W3 → Mv T T' pb off W3 W4 → Boxed W4 kb 3 (.int .i64 ((k : Int) + 1)) → Pq (fun j => (j < W0.heap.size ∧ ((j < kb + 1 ∧ Z0 j) ∨ kb + 3 ≤ j)) ∨ W3.heap.size ≤ j) W4 pb off t T' v' L' L' ks →
      W4.ownsRow W0.heap.size 21 1 (.slice A x.1.length cap) x.1.length (x.1.map enc32) → Fr (fun j => (Value.slice A x.1.length cap).ownBlock = some j) W4 W5 → (∀ j, Two (kb + 1) j → W5.heap[j]? = W2.heap[j]?) ∧ IW Z0 T0 WB pb off t kb ks (k + 1) W5) := Lib.hid fun W3 W4 W5 T' v' L' f1 f2 f3 f4 f5 f6 f7 =>
    round_end hkb (fun j hj => (h0l j hj).2) hpb.2 (by omega) hs02 f1 hT0 f2 f3 f4 f5 f6 (fun g e => by
      cases A with
      | none => cases e
      | some ad =>
        have e' : ad.block = g := by simpa [Value.ownBlock] using e
        rw [← e']; exact (hfr ad rfl).2) f7
  have cw := hC2.bw.cell
  have ck0 := hk2.cell
  have fk0 := hk2.frozen
  obtain ⟨Aw, cw', rfl⟩ := hC2.rw.form
  have hs2' : W2.heap.size = W2.heap.size := rfl
  clear hI2 hM0 hB0k hP0 hM2 hP2 hk2 hC2 hrd hn0 hcap hown hfr hF02 hs2'
  have hxk : k + 1 ≤ want.length := hkl
  replace hkb := Lib.hid hkb
  unfold r41 b41 w41 fr41
  dsimp only [Try.f41, bodyOf, sqF, sqS, cdT, bkB, lpB, rfB]
  gi_wp2_with fail
  refine callR his.out ?_
  rintro e _ ⟨rfl, m, rfl⟩
  obtain ⟨W3, hW3, hC3, hP3, hM3, hR3, hO3, hF3⟩ := hst.out m
  replace hW3 := Lib.hid hW3
  clear his hst
  have hs3 : W3.heap.size = W2.heap.size := by rw [hW3.out]; simp
  have hFin : Hid (∀ W4 W5 T' v' L', Mv T T' pb off W3 W4 → Cx W4 B0 h0 pb off wb tb kb dov who val nv Ak ck key (.slice Aw want.length cw') want turn ((k : Int) + 1) → Pq (fun j => (j < W0.heap.size ∧ ((j < kb + 1 ∧ Z0 j) ∨ kb + 3 ≤ j)) ∨ W3.heap.size ≤ j) W4 pb off t T' v' L' L' ks → Nice B0 W3 (fun j => T.own j ∨ j = pb) →
      Fr (fun j => (Value.slice A x.1.length cap).ownBlock = some j) W4 W5 → (∀ j, Two (kb + 1) j → W5.heap[j]? = W2.heap[j]?) ∧ IW Z0 T0 WB pb off t kb ks (k + 1) W5) := Lib.hid fun W4 W5 T' v' L' f1 f2 f3 f4 f5 =>
    hend.out W3 W4 W5 T' v' L' hF3 hM3 f1 f2.bk f3 (own_nice hO3 f1.fr f4) f5
  gi_upto_region 18 with fail
  rw [← hW3.out]
  have ct := hC3.bt.cell
  have hsp : Hid (∀ W4, W4.ownsRow W0.heap.size 21 1 (.slice A x.1.length cap) x.1.length (x.1.map enc32) → W0.heap.size ≤ W4.heap.size → Cx W4 B0 h0 pb off wb tb kb dov who val nv Ak ck key (.slice Aw want.length cw') want turn ((k : Int) + 1) → Calls Try.prog 59 #[.slice A x.1.length cap] W4 fun e W5 => e = .returned (.bool true) ∧ Fr (fun j => (Value.slice A x.1.length cap).ownBlock = some j) W4 W5 ∧
      W5.cell? ⟨tb, 0, none⟩ = some (.int .i64 turn) ∧ W5.cell? ⟨kb, 0, none⟩ = some (.int .i64 ((k : Int) + 1)) ∧ W5.cell? ⟨h0 + 1, 4, none⟩ = some (.int .i64 nv)) := Lib.hid fun W4 f1 f2 f3 =>
    (spoil_i W4 _ _ _ _ f1 f2 (by omega)).mono fun e W5 ⟨g1, g2⟩ => by
      have hne : ∀ {b : Nat} {c : Array Value} {ty : TypeId} {f : Nat × Nat}, W4.heap[b]? = some (.cells c ty f) → ty ≠ 21 → ¬ (Value.slice A x.1.length cap).ownBlock = some b := fun {b c ty f} hb hty e => by
        rcases f1.2 with ⟨h1, _⟩ | ⟨g, cap', cur, h1, _, hh, _⟩
        · rw [h1] at e; cases e
        · rw [h1] at e
          have e' : g = b := by simpa [Value.ownBlock] using e
          subst e'
          rw [hh] at hb; injection hb with hb; injection hb with _ hb; exact hty hb.symm
      exact ⟨g1, g2, g2.cell f3.bt.cell (hne f3.bt (by decide)), g2.cell f3.bk.cell (hne f3.bk (by decide)), g2.cell (p := ⟨h0 + 1, 4, none⟩) (by simp [World.cell?, f3.bs]) (hne f3.bs (by decide))⟩
  have hN3 : Hid (Nice B0 W3 (fun j => T.own j ∨ j = pb)) := Lib.hid fun j hj => by
    rcases hj with hj | hj
    · exact nice_own hP3.tri hB0T j hj
    · obtain ⟨c, hc⟩ := hP3.ty
      exact nice_pb hc hpb.1 j hj
  have hM33 := Lib.hid (Mv.refl hP3)
  have hP33 : Hid (Pq (fun j => (j < W0.heap.size ∧ ((j < kb + 1 ∧ Z0 j) ∨ kb + 3 ≤ j)) ∨ W3.heap.size ≤ j) W3 pb off t T v L L ks) := Lib.hid (hP3.mono fun j _ h => .inl h)
  have hsz03 : W0.heap.size ≤ W3.heap.size := by omega
  replace hC3 := Lib.hid hC3
  replace hP3 := Lib.hid hP3
  replace hO3 := Lib.hid hO3
  clear hend hM3 hF3 hCy hN cw ck0 fk0
  rcases hturn with rfl | rfl | rfl | rfl
  · -- the first turn
    gi_wp2_with fail
    refine callR (hsp.out W3 hO3.out hsz03 hC3.out) ?_
    rintro e W5 ⟨rfl, hF5, ct5, ck5, cs5⟩
    have hE := Lib.hid (hFin.out W3 W5 T v L hM33.out hC3.out hP33.out hN3.out hF5)
    clear hFin hsp hF5 ct
    by_cases hnv : nv ≤ (k : Int) + 1
    · have hd : decide (nv ≤ (k : Int) + 1) = true := by simp; omega
      gi_wp2
      obtain ⟨q1, q2⟩ := hE.out
      exact ⟨q1, rfl, rfl, k + 1, by omega, hxk, q2⟩
    · have hd : decide (nv ≤ (k : Int) + 1) = false := by simp; omega
      gi_wp2
      obtain ⟨q1, q2⟩ := hE.out
      exact ⟨q1, q2⟩
  · gi_wp2_with fail
    refine callR (hsp.out W3 hO3.out hsz03 hC3.out) ?_
    rintro e W5 ⟨rfl, hF5, ct5, ck5, cs5⟩
    have hE := Lib.hid (hFin.out W3 W5 T v L hM33.out hC3.out hP33.out hN3.out hF5)
    clear hFin hsp hF5 ct
    gi_wp2
    obtain ⟨q1, q2⟩ := hE.out
    exact ⟨q1, q2⟩
  · gi_upto_if 58 with fail
    refine wpIn_cond_true rfl ?_
    refine c41_i l n _ W3 B0 h0 pb off wb tb kb t k dov who val nv 2 Ak ck key (.slice Aw want.length cw') want T v L ks (fun j => j < W0.heap.size ∧ ((j < kb + 1 ∧ Z0 j) ∨ kb + 3 ≤ j)) A cap x it sp sv (.int .i64 x.2) hC3.out hP3.out hx hxl hwl hR3 hkey hB0T hpb.1 ?_ _ _ _ _ _ _ _ _ _ _ _ _ _ _ _ _ _ _ _ _ _ _ _ _ _ _ _ _ _ _ _ _ _ _ _ _ _ _ _ _ _ _ _ _ _ _ _ _ _ _ _ _ _ _ _ _ _ _ _ _ _ _ _ _ _ _ _ _ _ _ _ _ _ _ _ _ _ _ _ _ _ _ _ _ _ _ _ _ _ _ _ _ _ _ _ _ _ _ _ _ _ _ _ _ _ _ _ _ _ _ _ _ _ _ _ _ _ _
    rintro W4 T' v' L' f1 f2 f3 f4
    intro _ _ _ _ _ _ _ _ _ _ _ _ _ _ _ _ _ _ _ _ _ _ _ _ _ _ _ _ _ _ _ _ _ _ _ _ _ _ _ _ _ _ _ _ _ _ _ _ _ _ _ _ _ _ _ _ _ _ _ _ _ _ _ _ _ _ _ _ _ _ _ _ _ _ _ _ _ _ _ _ _ _ _ _ _ _ _ _ _ _ _ _ _ _ _ _ _ _ _ _ _ _ _ _ _ _ _ _ _ _ _ _ _ _ _ _ _ _
    have hO4 := own_nice hO3.out f3.fr hN3.out
    have hs4 := f3.fr.size
    have hE0 : Hid (∀ W5, Fr (fun j => (Value.slice A x.1.length cap).ownBlock = some j) W4 W5 → (∀ j, Two (kb + 1) j → W5.heap[j]? = W2.heap[j]?) ∧ IW Z0 T0 WB pb off t kb ks (k + 1) W5) := Lib.hid fun W5 f5 => hFin.out W4 W5 T' v' L' f3 f1 f2 hN3.out f5
    have hS4 := Lib.hid (hsp.out W4 hO4 (by omega) f1)
    clear hFin hsp ct f1 f2 f3 f4 hO4 hR3 hC3 hP3 hO3 hM33 hP33
    unfold fr41
    gi_wp2_with fail
    refine callR hS4.out ?_
    rintro e W5 ⟨rfl, hF5, ct5, ck5, cs5⟩
    have hE := Lib.hid (hE0.out W5 hF5)
    clear hE0 hS4 hF5
    gi_wp2
    obtain ⟨q1, q2⟩ := hE.out
    exact ⟨q1, q2⟩
  · gi_wp2_with fail
    refine callR (hsp.out W3 hO3.out hsz03 hC3.out) ?_
    rintro e W5 ⟨rfl, hF5, ct5, ck5, cs5⟩
    have hE := Lib.hid (hFin.out W3 W5 T v L hM33.out hC3.out hP33.out hN3.out hF5)
    clear hFin hsp hF5 ct
    gi_wp2
    obtain ⟨q1, q2⟩ := hE.out
    exact ⟨q1, q2⟩
end Go.Proofs.Ytioflglfnalcaaa

/- TriePlays: walked's turns: printed by gen_pn.py. -/
namespace Go.Proofs.Ytioflglfnalcaaa
open Go.RowKit

attribute [local go_sem] Oper.semAt_some

theorem ownsRow_nice {W W' : World} {B0 B : Nat} {S : Nat → Prop} {e : TypeId} {v : Value} {n : Nat} {xs : List Value} (h : W.ownsRow B e 1 v n xs) (k : Fr S W W') (hs : Nice B0 W S) (he : e ≠ 78 ∧ e ≠ 76 ∧ e ≠ 30 ∧ e ≠ 27) : W'.ownsRow B e 1 v n xs := by
  refine ⟨h.1, ?_⟩
  rcases h.2 with h2 | ⟨g, cap, cur, hv, hg, hh, r⟩
  · exact .inl h2
  · exact .inr ⟨g, cap, cur, hv, hg, k.heap hh (hs.box hh he), r⟩
theorem Coll.nice {W W' : World} {B0 B : Nat} {S : Nat → Prop} {br bt : Nat} {rv tv : Value} {rvals vals : List Value} {rows : List (List Int)} (h : Coll 43 64 3 B W br bt rv tv rvals vals rows) (k : Fr S W W') (hs : Nice B0 W S) : Coll 43 64 3 B W' br bt rv tv rvals vals rows where
  hb := h.hb
  hb2 := h.hb2
  box := k.heap h.box (hs.box h.box (by decide))
  own := ownsRow_nice h.own k hs (by decide)
  are := ⟨h.are.1, fun i hi => by
    obtain ⟨A, cap, h1, h2, h3⟩ := h.are.2 i hi
    exact ⟨A, cap, h1, rdT_nice h2 k hs, h3⟩⟩
  tbox := k.heap h.tbox (hs.box h.tbox (by decide))
  town := ownsRow_nice h.town k hs (by decide)

/-- The walks over iterators that are left, by their blocks. -/
def Dl (ds : List Nat) : List Deferred := ds.map fun d => { target := .collected d, args := #[] }
theorem leavesN (n : Nat) (fn : Func) (tmps : Array Value) (R : Ending → World → Prop) : ∀ (ds : List Nat) (W : World), (∀ d ∈ ds, W.heap[d]? = some (.deferred (some []))) → ds.Nodup →
    (∀ W', Fr (fun j => j ∈ ds) W W' → ∃ v, (results fn tmps).run Try.prog W' = .ok v W' ∧ R (.returned v) W') → LeavesInM Fence.wide n Try.prog fn tmps R (Dl ds) .returning W
  | [], W, _, _, h => by
    obtain ⟨v, h1, h2⟩ := h W (Fr.refl _ _)
    exact ⟨_, h1, h2⟩
  | d :: ds, W, hd, hn, h => by
    have hn' := List.nodup_cons.1 hn
    have h0 := hd d (by simp)
    refine ⟨by simp, .inl ⟨_, _, rfl, run_takeDeferred h0, ?_⟩⟩
    refine leavesN n fn tmps R ds _ (fun e he => put_other (hd e (by simp [he])) fun e' => hn'.1 (e' ▸ he)) hn'.2 fun W' hF => ?_
    exact h W' ((fr_putObj (S := fun j => j ∈ d :: ds) h0 (by simp)).trans hF fun j _ e => by simp [e])

/-- walked between two turns. -/
structure TW (Z0 : Nat → Prop) (Ti : AT) (WC W : World) (B B0 h0 pb off wb tb t : Nat) (dov who val nv : Int) (Ak : Option Addr) (ck : Nat) (key : List Int) (vw : Value) (want : List RowT) (ks : List (List Int)) (br bt : Nat) (rv tv : Value) (rvals : List Value) (turn : Nat) (ds : List Nat) : Prop where
  pair : ∃ T v L, Mv Ti T pb off WC W ∧ Pq (fun j => Z0 j ∨ WC.heap.size ≤ j) W pb off t T v L L ks
  cy : Cy W B0 h0 pb off wb tb dov who val nv Ak ck key vw want (turn : Int)
  coll : Coll 43 64 3 B W br bt rv tv rvals ((outs want).map (·.2)) ((outs want).map (·.1))
  dd : ∀ d ∈ ds, W.heap[d]? = some (.deferred (some []))
  dn : ds.Nodup
  dl : ∀ d ∈ ds, WC.heap.size ≤ d

def fw41 (sp sv : Value) (h0 wb tb : Nat) (it : Value) (y8 y9 y10 y11 y12 y13 y14 y15 y16 y17 y18 y19 y20 y21 y22 y23 y24 y25 y26 y27 y28 y29 y30 y31 y32 y33 y34 y35 y36 y37 y38 y39 y40 y41 y42 y43 y44 y45 y46 y47 y48 y49 y50 y51 y52 y53 y54 y55 y56 y57 y58 y59 y60 y61 y62 y63 y64 y65 y66 y67 y68 y69 y70 y71 y72 y73 y74 y75 y76 y77 y78 y79 y80 y81 y82 y83 y84 y85 y86 y87 y88 y89 y90 y91 y92 y93 y94 y95 y96 y97 y98 y99 y100 y101 y102 y103 y104 y105 y106 y107 y108 y109 y110 y111 y112 y113 y114 y115 y116 y117 y118 y119 y120 y121 y122 y123 y124 y125 y126 y127 y128 : Value) (ds : List Deferred) : Act :=
  { tmps := #[sp, sv, .pointer (some ⟨h0, 0, none⟩), .pointer (some ⟨h0 + 1, 0, none⟩), .pointer (some ⟨h0 + 2, 0, none⟩), .pointer (some ⟨wb, 0, none⟩), it, .pointer (some ⟨tb, 0, none⟩), y8, y9, y10, y11, y12, y13, y14, y15, y16, y17, y18, y19, y20, y21, y22, y23, y24, y25, y26, y27, y28, y29, y30, y31, y32, y33, y34, y35, y36, y37, y38, y39, y40, y41, y42, y43, y44, y45, y46, y47, y48, y49, y50, y51, y52, y53, y54, y55, y56, y57, y58, y59, y60, y61, y62, y63, y64, y65, y66, y67, y68, y69, y70, y71, y72, y73, y74, y75, y76, y77, y78, y79, y80, y81, y82, y83, y84, y85, y86, y87, y88, y89, y90, y91, y92, y93, y94, y95, y96, y97, y98, y99, y100, y101, y102, y103, y104, y105, y106, y107, y108, y109, y110, y111, y112, y113, y114, y115, y116, y117, y118, y119, y120, y121, y122, y123, y124, y125, y126, y127, y128], defers := ds }

theorem rowPost_block {Z0 : Nat → Prop} {D : Nat} {I : World → Prop} {T0 : AT} {WB : World} {pb off t kb : Nat} {ks : List (List Int)} {nw : Nat} {nv turn : Int} {W : World} {e : Exit} {a : Act} {w : World} (h : rowPost D I (IX Z0 T0 WB pb off t kb ks nw nv turn) W e a w) : Exit.inBlock 3 (rowPost D I (IX Z0 T0 WB pb off t kb ks nw nv turn) W) e a w := by
  cases e with
  | normal => exact h
  | ret => exact h
  | exit id =>
    have h1 := h.2.1
    injection h1 with h1
    subst h1
    exact h
  | goto t => exact h
  | panic c => exact h
  | outgrown => exact h

/-- walked: one turn with its test and its count. -/
noncomputable def t41 : Code := lpB (bkB w41)
set_option maxHeartbeats 4000000 in
set_option maxRecDepth 100000 in
theorem t41_i (Z0 : Nat → Prop) (n : Nat) (Q : Exit → Act → World → Prop) (Ti : AT) (WC W : World) (B B0 h0 pb off wb tb t : Nat) (dov who val nv : Int) (Ak : Option Addr) (ck : Nat) (key : List Int) (vw : Value) (want : List RowT) (ks : List (List Int)) (br bt : Nat) (rv tv : Value) (rvals : List Value) (turn : Nat) (ds : List Nat) (sp sv : Value)
    (hT : TW Z0 Ti WC W B B0 h0 pb off wb tb t dov who val nv Ak ck key vw want ks br bt rv tv rvals turn ds) (hturn : turn < 4) (hTi : ∀ j, Ti.own j → B0 ≤ j) (hB0 : B0 ≤ pb ∧ pb < WC.heap.size) (hwks : ∀ x ∈ want, x.1.length ≤ 35184372087808) (hwl : want.length ≤ 2550000000000) (hkey : key ∈ ks)
    (hQ : ∀ W' tb' d, TW Z0 Ti WC W' B B0 h0 pb off wb tb' t dov who val nv Ak ck key vw want ks br bt rv tv rvals (turn + 1) (d :: ds) → ∀ y8 y9 y10 y11 y12 y13 y14 y15 y16 y17 y18 y19 y20 y21 y22 y23 y24 y25 y26 y27 y28 y29 y30 y31 y32 y33 y34 y35 y36 y37 y38 y39 y40 y41 y42 y43 y44 y45 y46 y47 y48 y49 y50 y51 y52 y53 y54 y55 y56 y57 y58 y59 y60 y61 y62 y63 y64 y65 y66 y67 y68 y69 y70 y71 y72 y73 y74 y75 y76 y77 y78 y79 y80 y81 y82 y83 y84 y85 y86 y87 y88 y89 y90 y91 y92 y93 y94 y95 y96 y97 y98 y99 y100 y101 y102 y103 y104 y105 y106 y107 y108 y109 y110 y111 y112 y113 y114 y115 y116 y117 y118 y119 y120 y121 y122 y123 y124 y125 y126 y127 y128, Q .normal (fw41 sp sv h0 wb tb' (.func (.func 48) #[] #[ptr br, ptr bt]) y8 y9 y10 y11 y12 y13 y14 y15 y16 y17 y18 y19 y20 y21 y22 y23 y24 y25 y26 y27 y28 y29 y30 y31 y32 y33 y34 y35 y36 y37 y38 y39 y40 y41 y42 y43 y44 y45 y46 y47 y48 y49 y50 y51 y52 y53 y54 y55 y56 y57 y58 y59 y60 y61 y62 y63 y64 y65 y66 y67 y68 y69 y70 y71 y72 y73 y74 y75 y76 y77 y78 y79 y80 y81 y82 y83 y84 y85 y86 y87 y88 y89 y90 y91 y92 y93 y94 y95 y96 y97 y98 y99 y100 y101 y102 y103 y104 y105 y106 y107 y108 y109 y110 y111 y112 y113 y114 y115 y116 y117 y118 y119 y120 y121 y122 y123 y124 y125 y126 y127 y128 (Dl (d :: ds))) W')
    (y8 y9 y10 y11 y12 y13 y14 y15 y16 y17 y18 y19 y20 y21 y22 y23 y24 y25 y26 y27 y28 y29 y30 y31 y32 y33 y34 y35 y36 y37 y38 y39 y40 y41 y42 y43 y44 y45 y46 y47 y48 y49 y50 y51 y52 y53 y54 y55 y56 y57 y58 y59 y60 y61 y62 y63 y64 y65 y66 y67 y68 y69 y70 y71 y72 y73 y74 y75 y76 y77 y78 y79 y80 y81 y82 y83 y84 y85 y86 y87 y88 y89 y90 y91 y92 y93 y94 y95 y96 y97 y98 y99 y100 y101 y102 y103 y104 y105 y106 y107 y108 y109 y110 y111 y112 y113 y114 y115 y116 y117 y118 y119 y120 y121 y122 y123 y124 y125 y126 y127 y128 : Value) : t41.wpIn Fence.wide n Try.prog Q (fw41 sp sv h0 wb tb (.func (.func 48) #[] #[ptr br, ptr bt]) y8 y9 y10 y11 y12 y13 y14 y15 y16 y17 y18 y19 y20 y21 y22 y23 y24 y25 y26 y27 y28 y29 y30 y31 y32 y33 y34 y35 y36 y37 y38 y39 y40 y41 y42 y43 y44 y45 y46 y47 y48 y49 y50 y51 y52 y53 y54 y55 y56 y57 y58 y59 y60 y61 y62 y63 y64 y65 y66 y67 y68 y69 y70 y71 y72 y73 y74 y75 y76 y77 y78 y79 y80 y81 y82 y83 y84 y85 y86 y87 y88 y89 y90 y91 y92 y93 y94 y95 y96 y97 y98 y99 y100 y101 y102 y103 y104 y105 y106 y107 y108 y109 y110 y111 y112 y113 y114 y115 y116 y117 y118 y119 y120 y121 y122 y123 y124 y125 y126 y127 y128 (Dl ds)) W := by
  obtain ⟨⟨T, v, L, hM, hP⟩, hC, hColl, hdd, hdn, hdl⟩ := hT
  have hsC := hM.fr.size
  have hTB : ∀ j, T.own j → B0 ≤ j := fun j hj => by
    rcases hM.grow j hj with h | h
    · exact hTi j h
    · omega
  have hN : Nice B0 W (fun j => T.own j ∨ j = pb) := fun j hj => by
    rcases hj with hj | hj
    · exact nice_own hP.tri hTB j hj
    · obtain ⟨c, hc⟩ := hP.ty
      exact nice_pb hc hB0.1 j hj
  obtain ⟨WK, hWK⟩ : ∃ WK, WK = W.alloc (.cells #[.int .i64 0] 3) := ⟨_, rfl⟩
  have hbK : Below W.heap.size W WK := by rw [hWK]; exact (Below.refl _ _).alloc (Nat.le_refl _) _
  have hkK : Boxed WK W.heap.size 3 (.int .i64 0) := by rw [hWK]; exact heap_alloc_eq _ _
  have hsK : WK.heap.size = W.heap.size + 1 := by rw [hWK]; simp
  have hpbW : pb < W.heap.size := by omega
  have h0l : ∀ j, T.own j → B0 ≤ j ∧ j < W.heap.size := fun j hj => ⟨hTB j hj, hP.tri.rep.lt hj⟩
  obtain ⟨kb, hkb⟩ : ∃ kb, kb = W.heap.size := ⟨_, rfl⟩
  have hI0 : IW (fun j => Z0 j ∨ WC.heap.size ≤ j) T W pb off t kb ks 0 WK := ⟨T, v, L, (Mv.refl hP).new hpbW hbK, by rw [hkb]; exact hkK, (hP.mono fun j hj hz => .inl ⟨by omega, hz⟩).new hbK, fun j hj => .inl hj⟩
  -- behind the walk
  have hend : Hid (∀ k W', IW (fun j => Z0 j ∨ WC.heap.size ≤ j) T W pb off t kb ks k W' → W'.heap[kb + 1]? = some (.deferred (some [])) → TW Z0 Ti WC (W'.alloc (.cells #[.int .i64 ((turn : Int) + 1)] 3)) B B0 h0 pb off wb W'.heap.size t dov who val nv Ak ck key vw want ks br bt rv tv rvals (turn + 1) ((kb + 1) :: ds) ∧
      Boxed W' kb 3 (.int .i64 (k : Int)) ∧ Boxed W' tb 3 (.int .i64 (turn : Int)) ∧ Boxed W' wb 25 vw ∧ W'.cell? ⟨h0 + 1, 4, none⟩ = some (.int .i64 nv)) := Lib.hid fun k W' ⟨T', v', L', g1, g2, g3, g4⟩ hD => by
    have hcy := hC.frame g1.fr hN
    have hMW := hM.trans g1
    have hdd' : ∀ d ∈ (kb + 1) :: ds, W'.heap[d]? = some (.deferred (some [])) := fun d hd => by
      rcases List.mem_cons.1 hd with rfl | hd
      · exact hD
      · have h1 := hdd d hd
        refine (g1.fr.block d (lt_of_heap h1) ?_).trans h1
        rintro (e | e)
        · rcases e with ⟨p, hp⟩ | ⟨p, hp⟩
          · have := hP.tri.rep.node p d hp
            rw [h1] at this
            unfold nodeObj at this
            split at this <;> (injection this with this; cases this)
          · have := hP.tri.rep.map p d hp
            rw [h1] at this
            injection this with this; cases this
        · subst e
          obtain ⟨c, hc⟩ := hP.ty
          rw [h1] at hc; injection hc with hc; cases hc
    have hF : Below W'.heap.size W' (W'.alloc (.cells #[.int .i64 ((turn : Int) + 1)] 3)) := (Below.refl _ _).alloc (Nat.le_refl _) _
    have hbx : Boxed (W'.alloc (.cells #[.int .i64 ((turn : Int) + 1)] 3)) W'.heap.size 3 (.int .i64 ((turn : Int) + 1)) := heap_alloc_eq _ _
    have hcy2 := hcy.frame (Fr.of_below hF Nob) (B0 := B0) fun _ h => h.elim
    refine ⟨⟨⟨T', v', L', hMW.new hB0.2 hF, (g3.mono fun j hj hz => by
      rcases hz with hz | hz
      · exact hz.2
      · right; omega).new hF⟩, ⟨hcy2.bp, hcy2.bs, hcy2.br, hcy2.bw, ?_, hcy2.rw, hcy2.rk, hcy2.lk⟩, (hColl.nice g1.fr hN).nice (Fr.of_below hF Nob) (B0 := B0) fun _ h => h.elim, fun d hd => (hF.block d (lt_of_heap (hdd' d hd))).trans (hdd' d hd), ?_, fun d hd => ?_⟩, g2, hcy.bt, hcy.bw, by simp [World.cell?, hcy.bs]⟩
    · rw [show ((turn + 1 : Nat) : Int) = (turn : Int) + 1 by omega]; exact hbx
    · refine List.nodup_cons.2 ⟨fun h => ?_, hdn⟩
      have := lt_of_heap (hdd _ h)
      omega
    · rcases List.mem_cons.1 hd with rfl | hd
      · omega
      · exact hdl d hd
  have hCW := Lib.hid hC
  have hNW := Lib.hid hN
  have hCollK : Hid (∀ k W', IW (fun j => Z0 j ∨ WC.heap.size ≤ j) T W pb off t kb ks k W' → Coll 43 64 3 B W' br bt rv tv rvals ((outs want).map (·.2)) ((outs want).map (·.1))) := Lib.hid fun k W' ⟨T', v', L', g1, g2, g3, g4⟩ => hColl.nice g1.fr hN
  have hlen : ∀ x ∈ outs want, x.1.length ≤ 35184372088832 := fun x hx => by
    obtain ⟨y, hy, rfl⟩ := List.mem_map.1 hx
    have := hwks y hy
    simp only; omega
  have hol : (outs want).length = want.length := by simp [outs]
  have ct := hC.bt.cell
  have hlt : decide ((turn : Int) < 4) = true := by simp; omega
  have hlt2 : (turn : Int) < 4 := by omega
  obtain ⟨Aw, cw', rfl⟩ := hC.rw.form
  replace hI0 := Lib.hid hI0
  replace hWK := Lib.hid hWK
  replace hkb' := Lib.hid hkb
  have HQ := Lib.hid hQ
  have hbK' := Lib.hid hbK
  clear hM hP hC hColl hdd hN hbK hkK hQ hkb
  unfold t41 w41 fw41
  dsimp only [Try.f41, bodyOf, sqF, sqS, cdT, bkB, lpB, rfB]
  gi_wp2_with fail
  rw [← hWK.out, ← hkb'.out]
  have hsK' : WK.heap.size = kb + 1 := by rw [hsK, hkb'.out]
  clear hWK ct
  refine wp_range_rows (B := B) (br := br) (bt := bt) (rv := rv) (tv := tv) (rvals := rvals) (res := outs want) rfl rfl (IW (fun j => Z0 j ∨ WC.heap.size ≤ j) T W pb off t kb ks) (IX (fun j => Z0 j ∨ WC.heap.size ≤ j) T W pb off t kb ks want.length nv (turn : Int)) hCollK.out hlen (by omega) ?hI1 ?hIx1 hI0.out ?hround1 ?hdone1 ?hstop1
  case hI1 => exact fun k W1 W2 h hf => h.two hkb'.out (fun j hj => (h0l j hj).2) hpbW (by rw [← hsK']; exact hf)
  case hIx1 => exact fun c W1 W2 ⟨h1, h2, k, h3, h4, h5⟩ hf => ⟨h1, h2, k, h3, h4, h5.two hkb'.out (fun j hj => (h0l j hj).2) hpbW (by rw [← hsK']; exact hf)⟩
  case hround1 =>
    rintro l k A cap p v1 W1 W2 hkv hnow
    obtain ⟨x, hx, hxe⟩ : ∃ x, want[k]? = some x ∧ (x.1, Value.int .i64 x.2) = (p, v1) := by
      unfold outs at hkv
      rw [List.getElem?_map] at hkv
      cases hw : want[k]? with
      | none => rw [hw] at hkv; cases hkv
      | some x => rw [hw] at hkv; injection hkv with hkv; exact ⟨x, rfl, hkv⟩
    injection hxe with e1 e2
    subst e1
    subst e2
    rw [hsK'] at hnow ⊢
    have hr := fun y11 y12 y13 y14 y15 y16 y17 y18 y19 y20 y21 y22 y23 y24 y25 y26 y27 y28 y29 y30 y31 y32 y33 y34 y35 y36 y37 y38 y39 y40 y41 y42 y43 y44 y45 y46 y47 y48 y49 y50 y51 y52 y53 y54 y55 y56 y57 y58 y59 y60 y61 y62 y63 y64 y65 y66 y67 y68 y69 y70 y71 y72 y73 y74 y75 y76 y77 y78 y79 y80 y81 y82 y83 y84 y85 y86 y87 y88 y89 y90 y91 y92 y93 y94 y95 y96 y97 y98 y99 y100 y101 y102 y103 y104 y105 y106 y107 y108 y109 y110 y111 y112 y113 y114 y115 y116 y117 y118 y119 y120 y121 y122 y123 y124 y125 y126 y127 y128 => r41_i (fun j => Z0 j ∨ WC.heap.size ≤ j) l (n - 1 - 1) W W2 B0 h0 pb off wb tb kb t k dov who val nv (turn : Int) Ak ck key _ want T ks A cap x (.func (.func 48) #[] #[ptr br, ptr bt]) sp sv hkb'.out h0l ⟨hB0.1, hpbW⟩ hCW.out hNW.out hx (hwks x (List.mem_of_getElem? hx)) (by omega) hkey (by omega) hnow y11 y12 y13 y14 y15 y16 y17 y18 y19 y20 y21 y22 y23 y24 y25 y26 y27 y28 y29 y30 y31 y32 y33 y34 y35 y36 y37 y38 y39 y40 y41 y42 y43 y44 y45 y46 y47 y48 y49 y50 y51 y52 y53 y54 y55 y56 y57 y58 y59 y60 y61 y62 y63 y64 y65 y66 y67 y68 y69 y70 y71 y72 y73 y74 y75 y76 y77 y78 y79 y80 y81 y82 y83 y84 y85 y86 y87 y88 y89 y90 y91 y92 y93 y94 y95 y96 y97 y98 y99 y100 y101 y102 y103 y104 y105 y106 y107 y108 y109 y110 y111 y112 y113 y114 y115 y116 y117 y118 y119 y120 y121 y122 y123 y124 y125 y126 y127 y128
    replace hr := Lib.hid hr
    clear hnow hkv hx
    gi_wp2
    refine ⟨trivial, ?_⟩
    refine wpIn_block ?_
    exact wpIn_mono (hr.out _ _ _ _ _ _ _ _ _ _ _ _ _ _ _ _ _ _ _ _ _ _ _ _ _ _ _ _ _ _ _ _ _ _ _ _ _ _ _ _ _ _ _ _ _ _ _ _ _ _ _ _ _ _ _ _ _ _ _ _ _ _ _ _ _ _ _ _ _ _ _ _ _ _ _ _ _ _ _ _ _ _ _ _ _ _ _ _ _ _ _ _ _ _ _ _ _ _ _ _ _ _ _ _ _ _ _ _ _ _ _ _ _ _ _ _ _ _) fun e a w h => rowPost_block h
  case hdone1 =>
    intro W' hI hD
    rw [hol] at hI
    rw [hsK'] at hD ⊢
    obtain ⟨q1, q2, q3, q4, q5⟩ := hend.out _ W' hI hD
    have ck0 := q2.cell
    have ct0 := q3.cell
    have cw0 := q4.cell
    have e1 : ((want.length : Int) != (want.length : Int)) = false := by simp
    have hfin := Lib.hid (HQ.out _ _ _ q1)
    clear HQ hend hI hD q1 q2 q3 q4 q5 hI0 hCollK hCW hNW hlen
    gi_step
    gi_wp2
    exact hfin.out _ _ _ _ _ _ _ _ _ _ _ _ _ _ _ _ _ _ _ _ _ _ _ _ _ _ _ _ _ _ _ _ _ _ _ _ _ _ _ _ _ _ _ _ _ _ _ _ _ _ _ _ _ _ _ _ _ _ _ _ _ _ _ _ _ _ _ _ _ _ _ _ _ _ _ _ _ _ _ _ _ _ _ _ _ _ _ _ _ _ _ _ _ _ _ _ _ _ _ _ _ _ _ _ _ _ _ _ _ _ _ _ _ _ _ _ _ _ _ _ _
  case hstop1 =>
    rintro c W' ⟨rfl, ht0, k, hk1, hk2, hI⟩ hD
    rw [hsK'] at hD ⊢
    obtain ⟨q1, q2, q3, q4, q5⟩ := hend.out _ W' hI hD
    have ck0 := q2.cell
    have ct0 := q3.cell
    have cw0 := q4.cell
    have hfin := Lib.hid (HQ.out _ _ _ q1)
    have hfin1 := HQ.out _ _ _ q1
    rw [show (turn : Int) + 1 = 1 by omega] at hfin1
    replace hfin1 := Lib.hid hfin1
    have ct1 := Lib.hid (show W'.cell? ⟨tb, 0, none⟩ = some (.int .i64 0) by rw [ht0] at ct0; exact ct0)
    clear HQ hend hI hD q1 q2 q3 q4 hI0 hCollK hCW hNW hlen ht0
    by_cases hkk : k = want.length
    · subst hkk
      have e1 : ((want.length : Int) != (want.length : Int)) = false := by simp
      clear hk1 hk2 ct1
      gi_wp2
      first | exact hfin.out _ _ _ _ _ _ _ _ _ _ _ _ _ _ _ _ _ _ _ _ _ _ _ _ _ _ _ _ _ _ _ _ _ _ _ _ _ _ _ _ _ _ _ _ _ _ _ _ _ _ _ _ _ _ _ _ _ _ _ _ _ _ _ _ _ _ _ _ _ _ _ _ _ _ _ _ _ _ _ _ _ _ _ _ _ _ _ _ _ _ _ _ _ _ _ _ _ _ _ _ _ _ _ _ _ _ _ _ _ _ _ _ _ _ _ _ _ _ _ _ _ | exact hfin1.out _ _ _ _ _ _ _ _ _ _ _ _ _ _ _ _ _ _ _ _ _ _ _ _ _ _ _ _ _ _ _ _ _ _ _ _ _ _ _ _ _ _ _ _ _ _ _ _ _ _ _ _ _ _ _ _ _ _ _ _ _ _ _ _ _ _ _ _ _ _ _ _ _ _ _ _ _ _ _ _ _ _ _ _ _ _ _ _ _ _ _ _ _ _ _ _ _ _ _ _ _ _ _ _ _ _ _ _ _ _ _ _ _ _ _ _ _ _ _ _ _
    · have e1 : ((k : Int) != (want.length : Int)) = true := by simp; omega
      have e2 : decide ((k : Int) < nv) = false := by simp; omega
      have ct2 := ct1.out
      clear ct0 ct1
      gi_wp2
      first | exact hfin.out _ _ _ _ _ _ _ _ _ _ _ _ _ _ _ _ _ _ _ _ _ _ _ _ _ _ _ _ _ _ _ _ _ _ _ _ _ _ _ _ _ _ _ _ _ _ _ _ _ _ _ _ _ _ _ _ _ _ _ _ _ _ _ _ _ _ _ _ _ _ _ _ _ _ _ _ _ _ _ _ _ _ _ _ _ _ _ _ _ _ _ _ _ _ _ _ _ _ _ _ _ _ _ _ _ _ _ _ _ _ _ _ _ _ _ _ _ _ _ _ _ | exact hfin1.out _ _ _ _ _ _ _ _ _ _ _ _ _ _ _ _ _ _ _ _ _ _ _ _ _ _ _ _ _ _ _ _ _ _ _ _ _ _ _ _ _ _ _ _ _ _ _ _ _ _ _ _ _ _ _ _ _ _ _ _ _ _ _ _ _ _ _ _ _ _ _ _ _ _ _ _ _ _ _ _ _ _ _ _ _ _ _ _ _ _ _ _ _ _ _ _ _ _ _ _ _ _ _ _ _ _ _ _ _ _ _ _ _ _ _ _ _ _ _ _ _
end Go.Proofs.Ytioflglfnalcaaa

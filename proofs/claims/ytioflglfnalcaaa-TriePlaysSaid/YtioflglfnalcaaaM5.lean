/- glossarylaw04.TriePlays returns true, whatever the calls, and its input reads as it did. No condition. (Part M5.) -/
import Derived.Test.YtioflglfnalcaaaM4
/- TriePlays: step's regions that take a new list of the document's: printed by gen_pt.py. -/
namespace Go.Proofs.Ytioflglfnalcaaa
open Go.RowKit

attribute [local go_sem] Oper.semAt_some

structure Rs5 (pb off h0 ck nl cv : Nat) (Ak Av : Option Addr) (key : List Int) (val : Int) (Z : Nat → Prop) (W : World) (M1 : List RowT) (m1 : Nat) (bb : Bool) (A1 : Option Addr) (c1 q : Nat) (L : Nat → Bool) (w : World) (x30 x31 x32 x33 x34 x35 x36 x37 x38 x29 x39 x40 x7 x8 : Value) : Prop where
  hb : Below W.heap.size W w
  e0 : L 0 = true → x30 = .pointer (some ⟨pb, off, none⟩)
  e1 : L 1 = true → x31 = .pointer (some ⟨pb, off, none⟩)
  e2 : L 2 = true → x32 = .pointer (some ⟨pb, off + 1, none⟩)
  e3 : L 3 = true → x33 = .agg #[.slice Av nl cv]
  e4 : L 4 = true → x34 = .pointer (some ⟨h0, 2, none⟩)
  e5 : L 5 = true → x35 = .slice Ak key.length ck
  e6 : L 6 = true → x36 = .pointer (some ⟨h0, 3, none⟩)
  e7 : L 7 = true → x37 = .int .i64 val
  e8 : L 8 = true → x38 = .tuple #[.agg #[.slice A1 m1 c1], .bool bb] ∧ RefIs (fun j => Z j ∨ W.heap.size ≤ j) w (.slice A1 m1 c1) M1
  e9 : L 9 = true → x29 = .tuple #[.agg #[.slice A1 m1 c1], .bool bb]
  e10 : L 10 = true → x39 = .agg #[.slice A1 m1 c1]
  e11 : L 11 = true → x40 = .bool bb
  e12 : L 12 = true → x7 = .pointer (some ⟨q, 0, none⟩) ∧ W.heap.size ≤ q ∧ ∃ u, Boxed w q 27 u
  e13 : L 13 = true → Boxed w q 27 (.slice A1 m1 c1)
  e14 : L 14 = true → x8 = .bool bb

theorem Rs5.new {pb off h0 ck nl cv : Nat} {Ak Av : Option Addr} {key : List Int} {val : Int} {Z : Nat → Prop} {W : World} {M1 : List RowT} {m1 : Nat} {bb : Bool} {A1 : Option Addr} {c1 q : Nat} {L : Nat → Bool} {w w1 : World} {x30 x31 x32 x33 x34 x35 x36 x37 x38 x29 x39 x40 x7 x8 : Value} (h : Rs5 pb off h0 ck nl cv Ak Av key val Z W M1 m1 bb A1 c1 q L w x30 x31 x32 x33 x34 x35 x36 x37 x38 x29 x39 x40 x7 x8) (kb : Below w.heap.size w w1) : Rs5 pb off h0 ck nl cv Ak Av key val Z W M1 m1 bb A1 c1 q L w1 x30 x31 x32 x33 x34 x35 x36 x37 x38 x29 x39 x40 x7 x8 :=
  { h with
    hb := h.hb.trans (kb.mono h.hb.size)
    e8 := fun e => ⟨(h.e8 e).1, (h.e8 e).2.new kb⟩
    e12 := fun e => by
      obtain ⟨h1, h2, u, h3⟩ := h.e12 e
      exact ⟨h1, h2, u, boxed_new h3 kb⟩
    e13 := fun e => boxed_new (h.e13 e) kb }

def Js5 (sv s2 s4 xs : Value) (y6 y9 y10 y11 y12 y13 y14 y15 y16 y17 y18 y19 y20 y21 y22 y23 y24 y25 y26 y27 y28 y41 y42 y43 y44 y45 y46 y47 y48 y49 y50 y51 y52 y53 y54 y55 y56 y57 y58 y59 y60 y61 y62 y63 y64 y65 y66 y67 y68 y69 y70 y71 y72 y73 y74 y75 y76 y77 y78 y79 y80 y81 y82 y83 y84 y85 y86 y87 y88 y89 y90 y91 y92 y93 y94 y95 y96 y97 y98 y99 y100 y101 y102 y103 y104 y105 y106 y107 y108 y109 y110 y111 y112 y113 y114 y115 y116 y117 y118 y119 y120 y121 y122 y123 y124 y125 y126 y127 y128 y129 y130 y131 y132 y133 y134 y135 y136 y137 y138 y139 y140 y141 y142 y143 y144 y145 y146 y147 y148 y149 y150 y151 y152 y153 y154 y155 y156 y157 y158 y159 y160 y161 y162 y163 y164 y165 y166 y167 y168 y169 y170 y171 y172 y173 y174 y175 y176 y177 y178 y179 : Value) (pb off h0 ck nl cv : Nat) (Ak Av : Option Addr) (key : List Int) (val : Int) (Z : Nat → Prop) (W : World) (M1 : List RowT) (m1 : Nat) (bb : Bool) (L : Nat → Bool) (a : Act) (w : World) : Prop :=
  ∃ A1 c1 q x30 x31 x32 x33 x34 x35 x36 x37 x38 x29 x39 x40 x7 x8, a = (fs11 pb off sv s2 h0 s4 xs y6 x7 x8 y9 y10 y11 y12 y13 y14 y15 y16 y17 y18 y19 y20 y21 y22 y23 y24 y25 y26 y27 y28 x29 x30 x31 x32 x33 x34 x35 x36 x37 x38 x39 x40 y41 y42 y43 y44 y45 y46 y47 y48 y49 y50 y51 y52 y53 y54 y55 y56 y57 y58 y59 y60 y61 y62 y63 y64 y65 y66 y67 y68 y69 y70 y71 y72 y73 y74 y75 y76 y77 y78 y79 y80 y81 y82 y83 y84 y85 y86 y87 y88 y89 y90 y91 y92 y93 y94 y95 y96 y97 y98 y99 y100 y101 y102 y103 y104 y105 y106 y107 y108 y109 y110 y111 y112 y113 y114 y115 y116 y117 y118 y119 y120 y121 y122 y123 y124 y125 y126 y127 y128 y129 y130 y131 y132 y133 y134 y135 y136 y137 y138 y139 y140 y141 y142 y143 y144 y145 y146 y147 y148 y149 y150 y151 y152 y153 y154 y155 y156 y157 y158 y159 y160 y161 y162 y163 y164 y165 y166 y167 y168 y169 y170 y171 y172 y173 y174 y175 y176 y177 y178 y179) ∧ Rs5 pb off h0 ck nl cv Ak Av key val Z W M1 m1 bb A1 c1 q L w x30 x31 x32 x33 x34 x35 x36 x37 x38 x29 x39 x40 x7 x8

set_option maxHeartbeats 4000000 in
set_option maxRecDepth 100000 in
theorem s5_i (n : Nat) (Q : Exit → Act → World → Prop) (W : World) (sv s2 s4 xs : Value) (pb off h0 ck nl cv : Nat) (Ak Av : Option Addr) (key : List Int) (dov who val nv : Int) (Z : Nat → Prop) (M1 : List RowT) (bb : Bool)
    (hcv : W.cell? ⟨pb, off + 1, none⟩ = some (.slice Av nl cv)) (hs : W.heap[h0]? = some (.cells #[.int .i64 dov, .int .i64 who, .slice Ak key.length ck, .int .i64 val, .int .i64 nv] 38 (0, 0)))
    (hcall : ∀ w1, Below W.heap.size W w1 → Calls Try.prog 37 #[.agg #[.slice Av nl cv], .slice Ak key.length ck, .int .i64 val] w1 (NewRef2 Z w1 M1 bb)) (y6 y7 y8 y9 y10 y11 y12 y13 y14 y15 y16 y17 y18 y19 y20 y21 y22 y23 y24 y25 y26 y27 y28 y29 y30 y31 y32 y33 y34 y35 y36 y37 y38 y39 y40 y41 y42 y43 y44 y45 y46 y47 y48 y49 y50 y51 y52 y53 y54 y55 y56 y57 y58 y59 y60 y61 y62 y63 y64 y65 y66 y67 y68 y69 y70 y71 y72 y73 y74 y75 y76 y77 y78 y79 y80 y81 y82 y83 y84 y85 y86 y87 y88 y89 y90 y91 y92 y93 y94 y95 y96 y97 y98 y99 y100 y101 y102 y103 y104 y105 y106 y107 y108 y109 y110 y111 y112 y113 y114 y115 y116 y117 y118 y119 y120 y121 y122 y123 y124 y125 y126 y127 y128 y129 y130 y131 y132 y133 y134 y135 y136 y137 y138 y139 y140 y141 y142 y143 y144 y145 y146 y147 y148 y149 y150 y151 y152 y153 y154 y155 y156 y157 y158 y159 y160 y161 y162 y163 y164 y165 y166 y167 y168 y169 y170 y171 y172 y173 y174 y175 y176 y177 y178 y179 : Value)
    (hQ : ∀ w' q A1 c1, Below W.heap.size W w' → W.heap.size ≤ q → Boxed w' q 27 (.slice A1 M1.length c1) → RefIs (fun j => Z j ∨ W.heap.size ≤ j) w' (.slice A1 M1.length c1) M1 → ∀ x30 x31 x32 x33 x34 x35 x36 x37 x38 x29 x39 x40, Q .normal (fs11 pb off sv s2 h0 s4 xs y6 (.pointer (some ⟨q, 0, none⟩)) (.bool bb) y9 y10 y11 y12 y13 y14 y15 y16 y17 y18 y19 y20 y21 y22 y23 y24 y25 y26 y27 y28 x29 x30 x31 x32 x33 x34 x35 x36 x37 x38 x39 x40 y41 y42 y43 y44 y45 y46 y47 y48 y49 y50 y51 y52 y53 y54 y55 y56 y57 y58 y59 y60 y61 y62 y63 y64 y65 y66 y67 y68 y69 y70 y71 y72 y73 y74 y75 y76 y77 y78 y79 y80 y81 y82 y83 y84 y85 y86 y87 y88 y89 y90 y91 y92 y93 y94 y95 y96 y97 y98 y99 y100 y101 y102 y103 y104 y105 y106 y107 y108 y109 y110 y111 y112 y113 y114 y115 y116 y117 y118 y119 y120 y121 y122 y123 y124 y125 y126 y127 y128 y129 y130 y131 y132 y133 y134 y135 y136 y137 y138 y139 y140 y141 y142 y143 y144 y145 y146 y147 y148 y149 y150 y151 y152 y153 y154 y155 y156 y157 y158 y159 y160 y161 y162 y163 y164 y165 y166 y167 y168 y169 y170 y171 y172 y173 y174 y175 y176 y177 y178 y179) w') : s5.wpIn Fence.wide n Try.prog Q (fs11 pb off sv s2 h0 s4 xs y6 y7 y8 y9 y10 y11 y12 y13 y14 y15 y16 y17 y18 y19 y20 y21 y22 y23 y24 y25 y26 y27 y28 y29 y30 y31 y32 y33 y34 y35 y36 y37 y38 y39 y40 y41 y42 y43 y44 y45 y46 y47 y48 y49 y50 y51 y52 y53 y54 y55 y56 y57 y58 y59 y60 y61 y62 y63 y64 y65 y66 y67 y68 y69 y70 y71 y72 y73 y74 y75 y76 y77 y78 y79 y80 y81 y82 y83 y84 y85 y86 y87 y88 y89 y90 y91 y92 y93 y94 y95 y96 y97 y98 y99 y100 y101 y102 y103 y104 y105 y106 y107 y108 y109 y110 y111 y112 y113 y114 y115 y116 y117 y118 y119 y120 y121 y122 y123 y124 y125 y126 y127 y128 y129 y130 y131 y132 y133 y134 y135 y136 y137 y138 y139 y140 y141 y142 y143 y144 y145 y146 y147 y148 y149 y150 y151 y152 y153 y154 y155 y156 y157 y158 y159 y160 y161 y162 y163 y164 y165 y166 y167 y168 y169 y170 y171 y172 y173 y174 y175 y176 y177 y178 y179) W := by
  have Hcall := Lib.hid hcall
  have HQ := Lib.hid hQ
  have Hcv := Lib.hid hcv
  have hck : W.cell? ⟨h0, 2, none⟩ = some (.slice Ak key.length ck) := by simp [World.cell?, hs]
  have hcx : W.cell? ⟨h0, 3, none⟩ = some (.int .i64 val) := by simp [World.cell?, hs]
  have Hck := Lib.hid hck
  have Hcx := Lib.hid hcx
  clear hcall hQ hcv hs hck hcx
  unfold s5 sw11 fs11
  dsimp only [Try.f11, bodyOf, sqF, sqS, cdT, cdE, bkB, lpB, rfB]
  refine wpIn_region_closed (by kernel_rfl) (by kernel_rfl) (Js5 sv s2 s4 xs y6 y9 y10 y11 y12 y13 y14 y15 y16 y17 y18 y19 y20 y21 y22 y23 y24 y25 y26 y27 y28 y41 y42 y43 y44 y45 y46 y47 y48 y49 y50 y51 y52 y53 y54 y55 y56 y57 y58 y59 y60 y61 y62 y63 y64 y65 y66 y67 y68 y69 y70 y71 y72 y73 y74 y75 y76 y77 y78 y79 y80 y81 y82 y83 y84 y85 y86 y87 y88 y89 y90 y91 y92 y93 y94 y95 y96 y97 y98 y99 y100 y101 y102 y103 y104 y105 y106 y107 y108 y109 y110 y111 y112 y113 y114 y115 y116 y117 y118 y119 y120 y121 y122 y123 y124 y125 y126 y127 y128 y129 y130 y131 y132 y133 y134 y135 y136 y137 y138 y139 y140 y141 y142 y143 y144 y145 y146 y147 y148 y149 y150 y151 y152 y153 y154 y155 y156 y157 y158 y159 y160 y161 y162 y163 y164 y165 y166 y167 y168 y169 y170 y171 y172 y173 y174 y175 y176 y177 y178 y179 pb off h0 ck nl cv Ak Av key val Z W M1 M1.length bb) ?_ ?_ ?_
  · exact ⟨none, 0, 0, y30, y31, y32, y33, y34, y35, y36, y37, y38, y29, y39, y40, y7, y8, rfl, ⟨(Below.refl _ _).drew, (nomatch ·), (nomatch ·), (nomatch ·), (nomatch ·), (nomatch ·), (nomatch ·), (nomatch ·), (nomatch ·), (nomatch ·), (nomatch ·), (nomatch ·), (nomatch ·), (nomatch ·), (nomatch ·), (nomatch ·)⟩⟩
  · intro i o L a w1 ho hL hpre hcl hJJ
    have hi : i < 15 := by
      rcases Nat.lt_or_ge i 15 with h | h
      · exact h
      · rw [Array.getElem?_eq_none (by simpa using h)] at ho; cases ho
    obtain ⟨A1, c1, q, x30, x31, x32, x33, x34, x35, x36, x37, x38, x29, x39, x40, x7, x8, rfl, hR⟩ := hJJ
    have HR := Lib.hid hR
    have hBB := hR.hb
    have hcv : w1.cell? ⟨pb, off + 1, none⟩ = some (.slice Av nl cv) := (hBB.cell (p := ⟨pb, off + 1, none⟩) (cell_lt Hcv.out)).trans Hcv.out
    have hck : w1.cell? ⟨h0, 2, none⟩ = some (.slice Ak key.length ck) := (hBB.cell (p := ⟨h0, 2, none⟩) (cell_lt Hck.out)).trans Hck.out
    have hcx : w1.cell? ⟨h0, 3, none⟩ = some (.int .i64 val) := (hBB.cell (p := ⟨h0, 3, none⟩) (cell_lt Hcx.out)).trans Hcx.out
    have cM : L 9 = true → L 8 = true := fun h => hcl 9 _ rfl h ⟨8, .data⟩ (by simp) rfl
    have c0 : L 10 = true → L 9 = true := fun h => hcl 10 _ rfl h ⟨9, .data⟩ (by simp) rfl
    have c1' : L 11 = true → L 9 = true := fun h => hcl 11 _ rfl h ⟨9, .data⟩ (by simp) rfl
    have cS : L 13 = true → L 10 = true := fun h => hcl 13 _ rfl h ⟨10, .data⟩ (by simp) rfl
    have cSb : L 13 = true → L 12 = true := fun h => hcl 13 _ rfl h ⟨12, .data⟩ (by simp) rfl
    have cE : L 14 = true → L 11 = true := fun h => hcl 14 _ rfl h ⟨11, .data⟩ (by simp) rfl
    rcases (by omega : i = 0 ∨ i = 1 ∨ i = 2 ∨ i = 3 ∨ i = 4 ∨ i = 5 ∨ i = 6 ∨ i = 7 ∨ i = 8 ∨ i = 9 ∨ i = 10 ∨ i = 11 ∨ i = 12 ∨ i = 13 ∨ i = 14) with rfl | rfl | rfl | rfl | rfl | rfl | rfl | rfl | rfl | rfl | rfl | rfl | rfl | rfl | rfl
    · cases ho
      clear hR hpre hcl cM c0 c1' cS cSb cE hBB
      unfold StepIn fs11
      go_simp
      exact ⟨A1, c1, q, _, _, _, _, _, _, _, _, _, _, _, _, _, _, rfl, { HR.out with e0 := fun _ => rfl }⟩
    · cases ho
      obtain rfl := hR.e0 (hpre ⟨0, .data⟩ (by simp) rfl)
      clear hR hpre hcl cM c0 c1' cS cSb cE hBB
      unfold StepIn fs11
      go_simp
      exact ⟨A1, c1, q, _, _, _, _, _, _, _, _, _, _, _, _, _, _, rfl, { HR.out with e1 := fun _ => rfl }⟩
    · cases ho
      obtain rfl := hR.e1 (hpre ⟨1, .data⟩ (by simp) rfl)
      clear hR hpre hcl cM c0 c1' cS cSb cE hBB
      unfold StepIn fs11
      go_simp
      exact ⟨A1, c1, q, _, _, _, _, _, _, _, _, _, _, _, _, _, _, rfl, { HR.out with e2 := fun _ => rfl }⟩
    · cases ho
      obtain rfl := hR.e2 (hpre ⟨2, .data⟩ (by simp) rfl)
      clear hR hpre hcl cM c0 c1' cS cSb cE hBB
      unfold StepIn fs11
      go_simp
      exact ⟨A1, c1, q, _, _, _, _, _, _, _, _, _, _, _, _, _, _, rfl, { HR.out with e3 := fun _ => rfl }⟩
    · cases ho
      clear hR hpre hcl cM c0 c1' cS cSb cE hBB
      unfold StepIn fs11
      go_simp
      exact ⟨A1, c1, q, _, _, _, _, _, _, _, _, _, _, _, _, _, _, rfl, { HR.out with e4 := fun _ => rfl }⟩
    · cases ho
      obtain rfl := hR.e4 (hpre ⟨4, .data⟩ (by simp) rfl)
      clear hR hpre hcl cM c0 c1' cS cSb cE hBB
      unfold StepIn fs11
      go_simp
      exact ⟨A1, c1, q, _, _, _, _, _, _, _, _, _, _, _, _, _, _, rfl, { HR.out with e5 := fun _ => rfl }⟩
    · cases ho
      clear hR hpre hcl cM c0 c1' cS cSb cE hBB
      unfold StepIn fs11
      go_simp
      exact ⟨A1, c1, q, _, _, _, _, _, _, _, _, _, _, _, _, _, _, rfl, { HR.out with e6 := fun _ => rfl }⟩
    · cases ho
      obtain rfl := hR.e6 (hpre ⟨6, .data⟩ (by simp) rfl)
      clear hR hpre hcl cM c0 c1' cS cSb cE hBB
      unfold StepIn fs11
      go_simp
      exact ⟨A1, c1, q, _, _, _, _, _, _, _, _, _, _, _, _, _, _, rfl, { HR.out with e7 := fun _ => rfl }⟩
    · cases ho
      obtain rfl := hR.e3 (hpre ⟨3, .data⟩ (by simp) rfl)
      obtain rfl := hR.e5 (hpre ⟨5, .data⟩ (by simp) rfl)
      obtain rfl := hR.e7 (hpre ⟨7, .data⟩ (by simp) rfl)
      have hcall := Lib.hid (Hcall.out w1 hBB)
      have dM : L 9 = true → False := fun h => by rw [cM h] at hL; cases hL
      have d0 : L 10 = true → False := fun h => dM (c0 h)
      have d1 : L 11 = true → False := fun h => dM (c1' h)
      have dS : L 13 = true → False := fun h => d0 (cS h)
      have dE : L 14 = true → False := fun h => d1 (cE h)
      have hsz := hBB.size
      clear hR hpre hcl cM c0 c1' cS cSb cE hBB
      replace dM := Lib.hid dM
      replace d0 := Lib.hid d0
      replace d1 := Lib.hid d1
      replace dS := Lib.hid dS
      replace dE := Lib.hid dE
      unfold StepIn fs11
      go_simp
      refine ⟨trivial, (by intro h; cases h), CallsIn.mono (callsIn_wide.2 hcall.out) ?_⟩
      rintro e w3 ⟨v1, rfl, hr1, hb1⟩
      obtain ⟨A1', c1', rfl⟩ := hr1.form
      have hN := HR.out.new hb1
      exact ⟨A1', c1', q, _, _, _, _, _, _, _, _, _, _, _, _, _, _, rfl, { hb := hN.hb, e0 := hN.e0, e1 := hN.e1, e2 := hN.e2, e3 := hN.e3, e4 := hN.e4, e5 := hN.e5, e6 := hN.e6, e7 := hN.e7, e8 := fun _ => ⟨rfl, hr1.mono fun j _ h => h.elim .inl fun h => .inr (by omega)⟩, e9 := fun h => (dM.out h).elim, e10 := fun h => (d0.out h).elim, e11 := fun h => (d1.out h).elim, e12 := hN.e12, e13 := fun h => (dS.out h).elim, e14 := fun h => (dE.out h).elim }⟩
    · cases ho
      obtain ⟨rfl, -⟩ := hR.e8 (hpre ⟨8, .data⟩ (by simp) rfl)
      clear hR hpre hcl cM c0 c1' cS cSb cE hBB
      unfold StepIn fs11
      go_simp
      exact ⟨A1, c1, q, _, _, _, _, _, _, _, _, _, _, _, _, _, _, rfl, { HR.out with e9 := fun _ => rfl }⟩
    · cases ho
      obtain rfl := hR.e9 (hpre ⟨9, .data⟩ (by simp) rfl)
      clear hR hpre hcl cM c0 c1' cS cSb cE hBB
      unfold StepIn fs11
      go_simp
      exact ⟨A1, c1, q, _, _, _, _, _, _, _, _, _, _, _, _, _, _, rfl, { HR.out with e10 := fun _ => rfl }⟩
    · cases ho
      obtain rfl := hR.e9 (hpre ⟨9, .data⟩ (by simp) rfl)
      clear hR hpre hcl cM c0 c1' cS cSb cE hBB
      unfold StepIn fs11
      go_simp
      exact ⟨A1, c1, q, _, _, _, _, _, _, _, _, _, _, _, _, _, _, rfl, { HR.out with e11 := fun _ => rfl }⟩
    · cases ho
      have dS : L 13 = true → False := fun h => by rw [cSb h] at hL; cases hL
      have hsz := hBB.size
      have hN := Lib.hid (hR.new ((Below.refl _ w1).alloc (Nat.le_refl _) (.cells #[.slice none 0 0] 27)))
      have hbx : Hid (Boxed (w1.alloc (.cells #[.slice none 0 0] 27)) w1.heap.size 27 (.slice none 0 0)) := Lib.hid (heap_alloc_eq _ _)
      replace dS := Lib.hid dS
      clear hR hpre hcl cM c0 c1' cS cSb cE hBB
      unfold StepIn fs11
      go_simp
      exact ⟨A1, c1, w1.heap.size, _, _, _, _, _, _, _, _, _, _, _, _, _, _, rfl, { hb := hN.out.hb, e0 := hN.out.e0, e1 := hN.out.e1, e2 := hN.out.e2, e3 := hN.out.e3, e4 := hN.out.e4, e5 := hN.out.e5, e6 := hN.out.e6, e7 := hN.out.e7, e8 := hN.out.e8, e9 := hN.out.e9, e10 := hN.out.e10, e11 := hN.out.e11, e12 := fun _ => ⟨rfl, hsz, _, hbx.out⟩, e13 := fun h => (dS.out h).elim, e14 := hN.out.e14 }⟩
    · cases ho
      obtain ⟨rfl, hq1, u, hq2⟩ := hR.e12 (hpre ⟨12, .data⟩ (by simp) rfl)
      obtain rfl := hR.e10 (hpre ⟨10, .data⟩ (by simp) rfl)
      have hF : Fr (fun j => j = q) w1 (w1.setCell ⟨q, 0, none⟩ (.slice A1 M1.length c1)) := (Fr.refl (fun j => j = q) w1).setCell (p := ⟨q, 0, none⟩) (.inl rfl) _
      have hr10 : Hid (L 8 = true → RefIs (fun j => Z j ∨ W.heap.size ≤ j) (w1.setCell ⟨q, 0, none⟩ (.slice A1 M1.length c1)) (.slice A1 M1.length c1) M1) := Lib.hid fun h => (hR.e8 h).2.frame hF fun j c t f hS hj e => by
        subst hS
        rw [hq2] at hj
        injection hj with hj
        injection hj with _ hj
        rw [← hj] at e
        rcases e with e | e <;> cases e
      have hb15 : Hid (Below W.heap.size W (w1.setCell ⟨q, 0, none⟩ (.slice A1 M1.length c1))) := Lib.hid (hBB.trans (hF.below hBB.size fun j e => by omega))
      have hbx : Hid (Boxed (w1.setCell ⟨q, 0, none⟩ (.slice A1 M1.length c1)) q 27 (.slice A1 M1.length c1)) := Lib.hid (hq2.set _)
      have hqc := hq2.cell
      have hqf := hq2.frozen
      clear hF hq2 hR hpre hcl cM c0 c1' cS cSb cE hBB
      unfold StepIn fs11
      go_simp
      exact ⟨A1, c1, q, _, _, _, _, _, _, _, _, _, _, _, _, _, _, rfl, { HR.out with hb := hb15.out, e8 := fun h => ⟨(HR.out.e8 h).1, hr10.out h⟩, e12 := fun h => ⟨rfl, hq1, _, hbx.out⟩, e13 := fun _ => hbx.out }⟩
    · cases ho
      obtain rfl := hR.e11 (hpre ⟨11, .data⟩ (by simp) rfl)
      clear hR hpre hcl cM c0 c1' cS cSb cE hBB
      unfold StepIn fs11
      go_simp
      exact ⟨A1, c1, q, _, _, _, _, _, _, _, _, _, _, _, _, _, _, rfl, { HR.out with e14 := fun _ => rfl }⟩
  · rintro L a w1 hall ⟨A1, c1, q, x30, x31, x32, x33, x34, x35, x36, x37, x38, x29, x39, x40, x7, x8, rfl, hR⟩
    obtain ⟨rfl, hq1, -⟩ := hR.e12 (hall 12 (by decide))
    obtain rfl := hR.e14 (hall 14 (by decide))
    exact HQ.out w1 q A1 c1 hR.hb hq1 (hR.e13 (hall 13 (by decide))) (hR.e8 (hall 8 (by decide))).2 _ _ _ _ _ _ _ _ _ _ _ _

structure Rs17 (pb off h0 ck nl cv : Nat) (Ak Av : Option Addr) (key : List Int) (val : Int) (Z : Nat → Prop) (W : World) (M1 : List RowT) (m1 : Nat) (bb : Bool) (A1 : Option Addr) (c1 q : Nat) (L : Nat → Bool) (w : World) (x123 x124 x125 x126 x127 x128 x129 x122 x130 x131 x19 x20 : Value) : Prop where
  hb : Below W.heap.size W w
  e0 : L 0 = true → x123 = .pointer (some ⟨pb, off, none⟩)
  e1 : L 1 = true → x124 = .pointer (some ⟨pb, off, none⟩)
  e2 : L 2 = true → x125 = .pointer (some ⟨pb, off + 1, none⟩)
  e3 : L 3 = true → x126 = .agg #[.slice Av nl cv]
  e4 : L 4 = true → x127 = .pointer (some ⟨h0, 2, none⟩)
  e5 : L 5 = true → x128 = .slice Ak key.length ck
  e6 : L 6 = true → x129 = .tuple #[.agg #[.slice A1 m1 c1], .bool bb] ∧ RefIs (fun j => Z j ∨ W.heap.size ≤ j) w (.slice A1 m1 c1) M1
  e7 : L 7 = true → x122 = .tuple #[.agg #[.slice A1 m1 c1], .bool bb]
  e8 : L 8 = true → x130 = .agg #[.slice A1 m1 c1]
  e9 : L 9 = true → x131 = .bool bb
  e10 : L 10 = true → x19 = .pointer (some ⟨q, 0, none⟩) ∧ W.heap.size ≤ q ∧ ∃ u, Boxed w q 27 u
  e11 : L 11 = true → Boxed w q 27 (.slice A1 m1 c1)
  e12 : L 12 = true → x20 = .bool bb

theorem Rs17.new {pb off h0 ck nl cv : Nat} {Ak Av : Option Addr} {key : List Int} {val : Int} {Z : Nat → Prop} {W : World} {M1 : List RowT} {m1 : Nat} {bb : Bool} {A1 : Option Addr} {c1 q : Nat} {L : Nat → Bool} {w w1 : World} {x123 x124 x125 x126 x127 x128 x129 x122 x130 x131 x19 x20 : Value} (h : Rs17 pb off h0 ck nl cv Ak Av key val Z W M1 m1 bb A1 c1 q L w x123 x124 x125 x126 x127 x128 x129 x122 x130 x131 x19 x20) (kb : Below w.heap.size w w1) : Rs17 pb off h0 ck nl cv Ak Av key val Z W M1 m1 bb A1 c1 q L w1 x123 x124 x125 x126 x127 x128 x129 x122 x130 x131 x19 x20 :=
  { h with
    hb := h.hb.trans (kb.mono h.hb.size)
    e6 := fun e => ⟨(h.e6 e).1, (h.e6 e).2.new kb⟩
    e10 := fun e => by
      obtain ⟨h1, h2, u, h3⟩ := h.e10 e
      exact ⟨h1, h2, u, boxed_new h3 kb⟩
    e11 := fun e => boxed_new (h.e11 e) kb }

def Js17 (sv s2 s4 xs : Value) (y6 y7 y8 y9 y10 y11 y12 y13 y14 y15 y16 y17 y18 y21 y22 y23 y24 y25 y26 y27 y28 y29 y30 y31 y32 y33 y34 y35 y36 y37 y38 y39 y40 y41 y42 y43 y44 y45 y46 y47 y48 y49 y50 y51 y52 y53 y54 y55 y56 y57 y58 y59 y60 y61 y62 y63 y64 y65 y66 y67 y68 y69 y70 y71 y72 y73 y74 y75 y76 y77 y78 y79 y80 y81 y82 y83 y84 y85 y86 y87 y88 y89 y90 y91 y92 y93 y94 y95 y96 y97 y98 y99 y100 y101 y102 y103 y104 y105 y106 y107 y108 y109 y110 y111 y112 y113 y114 y115 y116 y117 y118 y119 y120 y121 y132 y133 y134 y135 y136 y137 y138 y139 y140 y141 y142 y143 y144 y145 y146 y147 y148 y149 y150 y151 y152 y153 y154 y155 y156 y157 y158 y159 y160 y161 y162 y163 y164 y165 y166 y167 y168 y169 y170 y171 y172 y173 y174 y175 y176 y177 y178 y179 : Value) (pb off h0 ck nl cv : Nat) (Ak Av : Option Addr) (key : List Int) (val : Int) (Z : Nat → Prop) (W : World) (M1 : List RowT) (m1 : Nat) (bb : Bool) (L : Nat → Bool) (a : Act) (w : World) : Prop :=
  ∃ A1 c1 q x123 x124 x125 x126 x127 x128 x129 x122 x130 x131 x19 x20, a = (fs11 pb off sv s2 h0 s4 xs y6 y7 y8 y9 y10 y11 y12 y13 y14 y15 y16 y17 y18 x19 x20 y21 y22 y23 y24 y25 y26 y27 y28 y29 y30 y31 y32 y33 y34 y35 y36 y37 y38 y39 y40 y41 y42 y43 y44 y45 y46 y47 y48 y49 y50 y51 y52 y53 y54 y55 y56 y57 y58 y59 y60 y61 y62 y63 y64 y65 y66 y67 y68 y69 y70 y71 y72 y73 y74 y75 y76 y77 y78 y79 y80 y81 y82 y83 y84 y85 y86 y87 y88 y89 y90 y91 y92 y93 y94 y95 y96 y97 y98 y99 y100 y101 y102 y103 y104 y105 y106 y107 y108 y109 y110 y111 y112 y113 y114 y115 y116 y117 y118 y119 y120 y121 x122 x123 x124 x125 x126 x127 x128 x129 x130 x131 y132 y133 y134 y135 y136 y137 y138 y139 y140 y141 y142 y143 y144 y145 y146 y147 y148 y149 y150 y151 y152 y153 y154 y155 y156 y157 y158 y159 y160 y161 y162 y163 y164 y165 y166 y167 y168 y169 y170 y171 y172 y173 y174 y175 y176 y177 y178 y179) ∧ Rs17 pb off h0 ck nl cv Ak Av key val Z W M1 m1 bb A1 c1 q L w x123 x124 x125 x126 x127 x128 x129 x122 x130 x131 x19 x20

set_option maxHeartbeats 4000000 in
set_option maxRecDepth 100000 in
theorem s17_i (n : Nat) (Q : Exit → Act → World → Prop) (W : World) (sv s2 s4 xs : Value) (pb off h0 ck nl cv : Nat) (Ak Av : Option Addr) (key : List Int) (dov who val nv : Int) (Z : Nat → Prop) (M1 : List RowT) (bb : Bool)
    (hcv : W.cell? ⟨pb, off + 1, none⟩ = some (.slice Av nl cv)) (hs : W.heap[h0]? = some (.cells #[.int .i64 dov, .int .i64 who, .slice Ak key.length ck, .int .i64 val, .int .i64 nv] 38 (0, 0)))
    (hcall : ∀ w1, Below W.heap.size W w1 → Calls Try.prog 40 #[.agg #[.slice Av nl cv], .slice Ak key.length ck] w1 (NewRef2 Z w1 M1 bb)) (y6 y7 y8 y9 y10 y11 y12 y13 y14 y15 y16 y17 y18 y19 y20 y21 y22 y23 y24 y25 y26 y27 y28 y29 y30 y31 y32 y33 y34 y35 y36 y37 y38 y39 y40 y41 y42 y43 y44 y45 y46 y47 y48 y49 y50 y51 y52 y53 y54 y55 y56 y57 y58 y59 y60 y61 y62 y63 y64 y65 y66 y67 y68 y69 y70 y71 y72 y73 y74 y75 y76 y77 y78 y79 y80 y81 y82 y83 y84 y85 y86 y87 y88 y89 y90 y91 y92 y93 y94 y95 y96 y97 y98 y99 y100 y101 y102 y103 y104 y105 y106 y107 y108 y109 y110 y111 y112 y113 y114 y115 y116 y117 y118 y119 y120 y121 y122 y123 y124 y125 y126 y127 y128 y129 y130 y131 y132 y133 y134 y135 y136 y137 y138 y139 y140 y141 y142 y143 y144 y145 y146 y147 y148 y149 y150 y151 y152 y153 y154 y155 y156 y157 y158 y159 y160 y161 y162 y163 y164 y165 y166 y167 y168 y169 y170 y171 y172 y173 y174 y175 y176 y177 y178 y179 : Value)
    (hQ : ∀ w' q A1 c1, Below W.heap.size W w' → W.heap.size ≤ q → Boxed w' q 27 (.slice A1 M1.length c1) → RefIs (fun j => Z j ∨ W.heap.size ≤ j) w' (.slice A1 M1.length c1) M1 → ∀ x123 x124 x125 x126 x127 x128 x129 x122 x130 x131, Q .normal (fs11 pb off sv s2 h0 s4 xs y6 y7 y8 y9 y10 y11 y12 y13 y14 y15 y16 y17 y18 (.pointer (some ⟨q, 0, none⟩)) (.bool bb) y21 y22 y23 y24 y25 y26 y27 y28 y29 y30 y31 y32 y33 y34 y35 y36 y37 y38 y39 y40 y41 y42 y43 y44 y45 y46 y47 y48 y49 y50 y51 y52 y53 y54 y55 y56 y57 y58 y59 y60 y61 y62 y63 y64 y65 y66 y67 y68 y69 y70 y71 y72 y73 y74 y75 y76 y77 y78 y79 y80 y81 y82 y83 y84 y85 y86 y87 y88 y89 y90 y91 y92 y93 y94 y95 y96 y97 y98 y99 y100 y101 y102 y103 y104 y105 y106 y107 y108 y109 y110 y111 y112 y113 y114 y115 y116 y117 y118 y119 y120 y121 x122 x123 x124 x125 x126 x127 x128 x129 x130 x131 y132 y133 y134 y135 y136 y137 y138 y139 y140 y141 y142 y143 y144 y145 y146 y147 y148 y149 y150 y151 y152 y153 y154 y155 y156 y157 y158 y159 y160 y161 y162 y163 y164 y165 y166 y167 y168 y169 y170 y171 y172 y173 y174 y175 y176 y177 y178 y179) w') : s17.wpIn Fence.wide n Try.prog Q (fs11 pb off sv s2 h0 s4 xs y6 y7 y8 y9 y10 y11 y12 y13 y14 y15 y16 y17 y18 y19 y20 y21 y22 y23 y24 y25 y26 y27 y28 y29 y30 y31 y32 y33 y34 y35 y36 y37 y38 y39 y40 y41 y42 y43 y44 y45 y46 y47 y48 y49 y50 y51 y52 y53 y54 y55 y56 y57 y58 y59 y60 y61 y62 y63 y64 y65 y66 y67 y68 y69 y70 y71 y72 y73 y74 y75 y76 y77 y78 y79 y80 y81 y82 y83 y84 y85 y86 y87 y88 y89 y90 y91 y92 y93 y94 y95 y96 y97 y98 y99 y100 y101 y102 y103 y104 y105 y106 y107 y108 y109 y110 y111 y112 y113 y114 y115 y116 y117 y118 y119 y120 y121 y122 y123 y124 y125 y126 y127 y128 y129 y130 y131 y132 y133 y134 y135 y136 y137 y138 y139 y140 y141 y142 y143 y144 y145 y146 y147 y148 y149 y150 y151 y152 y153 y154 y155 y156 y157 y158 y159 y160 y161 y162 y163 y164 y165 y166 y167 y168 y169 y170 y171 y172 y173 y174 y175 y176 y177 y178 y179) W := by
  have Hcall := Lib.hid hcall
  have HQ := Lib.hid hQ
  have Hcv := Lib.hid hcv
  have hck : W.cell? ⟨h0, 2, none⟩ = some (.slice Ak key.length ck) := by simp [World.cell?, hs]
  have hcx : W.cell? ⟨h0, 3, none⟩ = some (.int .i64 val) := by simp [World.cell?, hs]
  have Hck := Lib.hid hck
  have Hcx := Lib.hid hcx
  clear hcall hQ hcv hs hck hcx
  unfold s17 sx3 sx2 sx1 sw11 fs11
  dsimp only [Try.f11, bodyOf, sqF, sqS, cdT, cdE, bkB, lpB, rfB]
  refine wpIn_region_closed (by kernel_rfl) (by kernel_rfl) (Js17 sv s2 s4 xs y6 y7 y8 y9 y10 y11 y12 y13 y14 y15 y16 y17 y18 y21 y22 y23 y24 y25 y26 y27 y28 y29 y30 y31 y32 y33 y34 y35 y36 y37 y38 y39 y40 y41 y42 y43 y44 y45 y46 y47 y48 y49 y50 y51 y52 y53 y54 y55 y56 y57 y58 y59 y60 y61 y62 y63 y64 y65 y66 y67 y68 y69 y70 y71 y72 y73 y74 y75 y76 y77 y78 y79 y80 y81 y82 y83 y84 y85 y86 y87 y88 y89 y90 y91 y92 y93 y94 y95 y96 y97 y98 y99 y100 y101 y102 y103 y104 y105 y106 y107 y108 y109 y110 y111 y112 y113 y114 y115 y116 y117 y118 y119 y120 y121 y132 y133 y134 y135 y136 y137 y138 y139 y140 y141 y142 y143 y144 y145 y146 y147 y148 y149 y150 y151 y152 y153 y154 y155 y156 y157 y158 y159 y160 y161 y162 y163 y164 y165 y166 y167 y168 y169 y170 y171 y172 y173 y174 y175 y176 y177 y178 y179 pb off h0 ck nl cv Ak Av key val Z W M1 M1.length bb) ?_ ?_ ?_
  · exact ⟨none, 0, 0, y123, y124, y125, y126, y127, y128, y129, y122, y130, y131, y19, y20, rfl, ⟨(Below.refl _ _).drew, (nomatch ·), (nomatch ·), (nomatch ·), (nomatch ·), (nomatch ·), (nomatch ·), (nomatch ·), (nomatch ·), (nomatch ·), (nomatch ·), (nomatch ·), (nomatch ·), (nomatch ·)⟩⟩
  · intro i o L a w1 ho hL hpre hcl hJJ
    have hi : i < 13 := by
      rcases Nat.lt_or_ge i 13 with h | h
      · exact h
      · rw [Array.getElem?_eq_none (by simpa using h)] at ho; cases ho
    obtain ⟨A1, c1, q, x123, x124, x125, x126, x127, x128, x129, x122, x130, x131, x19, x20, rfl, hR⟩ := hJJ
    have HR := Lib.hid hR
    have hBB := hR.hb
    have hcv : w1.cell? ⟨pb, off + 1, none⟩ = some (.slice Av nl cv) := (hBB.cell (p := ⟨pb, off + 1, none⟩) (cell_lt Hcv.out)).trans Hcv.out
    have hck : w1.cell? ⟨h0, 2, none⟩ = some (.slice Ak key.length ck) := (hBB.cell (p := ⟨h0, 2, none⟩) (cell_lt Hck.out)).trans Hck.out
    have hcx : w1.cell? ⟨h0, 3, none⟩ = some (.int .i64 val) := (hBB.cell (p := ⟨h0, 3, none⟩) (cell_lt Hcx.out)).trans Hcx.out
    have cM : L 7 = true → L 6 = true := fun h => hcl 7 _ rfl h ⟨6, .data⟩ (by simp) rfl
    have c0 : L 8 = true → L 7 = true := fun h => hcl 8 _ rfl h ⟨7, .data⟩ (by simp) rfl
    have c1' : L 9 = true → L 7 = true := fun h => hcl 9 _ rfl h ⟨7, .data⟩ (by simp) rfl
    have cS : L 11 = true → L 8 = true := fun h => hcl 11 _ rfl h ⟨8, .data⟩ (by simp) rfl
    have cSb : L 11 = true → L 10 = true := fun h => hcl 11 _ rfl h ⟨10, .data⟩ (by simp) rfl
    have cE : L 12 = true → L 9 = true := fun h => hcl 12 _ rfl h ⟨9, .data⟩ (by simp) rfl
    rcases (by omega : i = 0 ∨ i = 1 ∨ i = 2 ∨ i = 3 ∨ i = 4 ∨ i = 5 ∨ i = 6 ∨ i = 7 ∨ i = 8 ∨ i = 9 ∨ i = 10 ∨ i = 11 ∨ i = 12) with rfl | rfl | rfl | rfl | rfl | rfl | rfl | rfl | rfl | rfl | rfl | rfl | rfl
    · cases ho
      clear hR hpre hcl cM c0 c1' cS cSb cE hBB
      unfold StepIn fs11
      go_simp
      exact ⟨A1, c1, q, _, _, _, _, _, _, _, _, _, _, _, _, rfl, { HR.out with e0 := fun _ => rfl }⟩
    · cases ho
      obtain rfl := hR.e0 (hpre ⟨0, .data⟩ (by simp) rfl)
      clear hR hpre hcl cM c0 c1' cS cSb cE hBB
      unfold StepIn fs11
      go_simp
      exact ⟨A1, c1, q, _, _, _, _, _, _, _, _, _, _, _, _, rfl, { HR.out with e1 := fun _ => rfl }⟩
    · cases ho
      obtain rfl := hR.e1 (hpre ⟨1, .data⟩ (by simp) rfl)
      clear hR hpre hcl cM c0 c1' cS cSb cE hBB
      unfold StepIn fs11
      go_simp
      exact ⟨A1, c1, q, _, _, _, _, _, _, _, _, _, _, _, _, rfl, { HR.out with e2 := fun _ => rfl }⟩
    · cases ho
      obtain rfl := hR.e2 (hpre ⟨2, .data⟩ (by simp) rfl)
      clear hR hpre hcl cM c0 c1' cS cSb cE hBB
      unfold StepIn fs11
      go_simp
      exact ⟨A1, c1, q, _, _, _, _, _, _, _, _, _, _, _, _, rfl, { HR.out with e3 := fun _ => rfl }⟩
    · cases ho
      clear hR hpre hcl cM c0 c1' cS cSb cE hBB
      unfold StepIn fs11
      go_simp
      exact ⟨A1, c1, q, _, _, _, _, _, _, _, _, _, _, _, _, rfl, { HR.out with e4 := fun _ => rfl }⟩
    · cases ho
      obtain rfl := hR.e4 (hpre ⟨4, .data⟩ (by simp) rfl)
      clear hR hpre hcl cM c0 c1' cS cSb cE hBB
      unfold StepIn fs11
      go_simp
      exact ⟨A1, c1, q, _, _, _, _, _, _, _, _, _, _, _, _, rfl, { HR.out with e5 := fun _ => rfl }⟩
    · cases ho
      obtain rfl := hR.e3 (hpre ⟨3, .data⟩ (by simp) rfl)
      obtain rfl := hR.e5 (hpre ⟨5, .data⟩ (by simp) rfl)
      have hcall := Lib.hid (Hcall.out w1 hBB)
      have dM : L 7 = true → False := fun h => by rw [cM h] at hL; cases hL
      have d0 : L 8 = true → False := fun h => dM (c0 h)
      have d1 : L 9 = true → False := fun h => dM (c1' h)
      have dS : L 11 = true → False := fun h => d0 (cS h)
      have dE : L 12 = true → False := fun h => d1 (cE h)
      have hsz := hBB.size
      clear hR hpre hcl cM c0 c1' cS cSb cE hBB
      replace dM := Lib.hid dM
      replace d0 := Lib.hid d0
      replace d1 := Lib.hid d1
      replace dS := Lib.hid dS
      replace dE := Lib.hid dE
      unfold StepIn fs11
      go_simp
      refine ⟨trivial, (by intro h; cases h), CallsIn.mono (callsIn_wide.2 hcall.out) ?_⟩
      rintro e w3 ⟨v1, rfl, hr1, hb1⟩
      obtain ⟨A1', c1', rfl⟩ := hr1.form
      have hN := HR.out.new hb1
      exact ⟨A1', c1', q, _, _, _, _, _, _, _, _, _, _, _, _, rfl, { hb := hN.hb, e0 := hN.e0, e1 := hN.e1, e2 := hN.e2, e3 := hN.e3, e4 := hN.e4, e5 := hN.e5, e6 := fun _ => ⟨rfl, hr1.mono fun j _ h => h.elim .inl fun h => .inr (by omega)⟩, e7 := fun h => (dM.out h).elim, e8 := fun h => (d0.out h).elim, e9 := fun h => (d1.out h).elim, e10 := hN.e10, e11 := fun h => (dS.out h).elim, e12 := fun h => (dE.out h).elim }⟩
    · cases ho
      obtain ⟨rfl, -⟩ := hR.e6 (hpre ⟨6, .data⟩ (by simp) rfl)
      clear hR hpre hcl cM c0 c1' cS cSb cE hBB
      unfold StepIn fs11
      go_simp
      exact ⟨A1, c1, q, _, _, _, _, _, _, _, _, _, _, _, _, rfl, { HR.out with e7 := fun _ => rfl }⟩
    · cases ho
      obtain rfl := hR.e7 (hpre ⟨7, .data⟩ (by simp) rfl)
      clear hR hpre hcl cM c0 c1' cS cSb cE hBB
      unfold StepIn fs11
      go_simp
      exact ⟨A1, c1, q, _, _, _, _, _, _, _, _, _, _, _, _, rfl, { HR.out with e8 := fun _ => rfl }⟩
    · cases ho
      obtain rfl := hR.e7 (hpre ⟨7, .data⟩ (by simp) rfl)
      clear hR hpre hcl cM c0 c1' cS cSb cE hBB
      unfold StepIn fs11
      go_simp
      exact ⟨A1, c1, q, _, _, _, _, _, _, _, _, _, _, _, _, rfl, { HR.out with e9 := fun _ => rfl }⟩
    · cases ho
      have dS : L 11 = true → False := fun h => by rw [cSb h] at hL; cases hL
      have hsz := hBB.size
      have hN := Lib.hid (hR.new ((Below.refl _ w1).alloc (Nat.le_refl _) (.cells #[.slice none 0 0] 27)))
      have hbx : Hid (Boxed (w1.alloc (.cells #[.slice none 0 0] 27)) w1.heap.size 27 (.slice none 0 0)) := Lib.hid (heap_alloc_eq _ _)
      replace dS := Lib.hid dS
      clear hR hpre hcl cM c0 c1' cS cSb cE hBB
      unfold StepIn fs11
      go_simp
      exact ⟨A1, c1, w1.heap.size, _, _, _, _, _, _, _, _, _, _, _, _, rfl, { hb := hN.out.hb, e0 := hN.out.e0, e1 := hN.out.e1, e2 := hN.out.e2, e3 := hN.out.e3, e4 := hN.out.e4, e5 := hN.out.e5, e6 := hN.out.e6, e7 := hN.out.e7, e8 := hN.out.e8, e9 := hN.out.e9, e10 := fun _ => ⟨rfl, hsz, _, hbx.out⟩, e11 := fun h => (dS.out h).elim, e12 := hN.out.e12 }⟩
    · cases ho
      obtain ⟨rfl, hq1, u, hq2⟩ := hR.e10 (hpre ⟨10, .data⟩ (by simp) rfl)
      obtain rfl := hR.e8 (hpre ⟨8, .data⟩ (by simp) rfl)
      have hF : Fr (fun j => j = q) w1 (w1.setCell ⟨q, 0, none⟩ (.slice A1 M1.length c1)) := (Fr.refl (fun j => j = q) w1).setCell (p := ⟨q, 0, none⟩) (.inl rfl) _
      have hr10 : Hid (L 6 = true → RefIs (fun j => Z j ∨ W.heap.size ≤ j) (w1.setCell ⟨q, 0, none⟩ (.slice A1 M1.length c1)) (.slice A1 M1.length c1) M1) := Lib.hid fun h => (hR.e6 h).2.frame hF fun j c t f hS hj e => by
        subst hS
        rw [hq2] at hj
        injection hj with hj
        injection hj with _ hj
        rw [← hj] at e
        rcases e with e | e <;> cases e
      have hb15 : Hid (Below W.heap.size W (w1.setCell ⟨q, 0, none⟩ (.slice A1 M1.length c1))) := Lib.hid (hBB.trans (hF.below hBB.size fun j e => by omega))
      have hbx : Hid (Boxed (w1.setCell ⟨q, 0, none⟩ (.slice A1 M1.length c1)) q 27 (.slice A1 M1.length c1)) := Lib.hid (hq2.set _)
      have hqc := hq2.cell
      have hqf := hq2.frozen
      clear hF hq2 hR hpre hcl cM c0 c1' cS cSb cE hBB
      unfold StepIn fs11
      go_simp
      exact ⟨A1, c1, q, _, _, _, _, _, _, _, _, _, _, _, _, rfl, { HR.out with hb := hb15.out, e6 := fun h => ⟨(HR.out.e6 h).1, hr10.out h⟩, e10 := fun h => ⟨rfl, hq1, _, hbx.out⟩, e11 := fun _ => hbx.out }⟩
    · cases ho
      obtain rfl := hR.e9 (hpre ⟨9, .data⟩ (by simp) rfl)
      clear hR hpre hcl cM c0 c1' cS cSb cE hBB
      unfold StepIn fs11
      go_simp
      exact ⟨A1, c1, q, _, _, _, _, _, _, _, _, _, _, _, _, rfl, { HR.out with e12 := fun _ => rfl }⟩
  · rintro L a w1 hall ⟨A1, c1, q, x123, x124, x125, x126, x127, x128, x129, x122, x130, x131, x19, x20, rfl, hR⟩
    obtain ⟨rfl, hq1, -⟩ := hR.e10 (hall 10 (by decide))
    obtain rfl := hR.e12 (hall 12 (by decide))
    exact HQ.out w1 q A1 c1 hR.hb hq1 (hR.e11 (hall 11 (by decide))) (hR.e6 (hall 6 (by decide))).2 _ _ _ _ _ _ _ _ _ _

end Go.Proofs.Ytioflglfnalcaaa

/- TriePlays: step behind its switch: printed by gen_pu.py. -/
namespace Go.Proofs.Ytioflglfnalcaaa
open Go.RowKit

noncomputable def fz11 : Code := sqS (sqS (sqS (sqS (bodyOf Try.f11))))

theorem rdI_of_own {w : World} {B xb cx : Nat} {zs : List Int} (h : w.ownsRow B 21 1 (.slice (some ⟨xb, 0, none⟩) zs.length cx) zs.length (zs.map enc32)) : RdI w (some ⟨xb, 0, none⟩) zs := fun k hk => by
  have hc := h.cellAt k (by omega)
  refine ⟨xb, 0, rfl, ?_⟩
  rw [Nat.zero_add, hc]
  simp [enc32, List.getD, hk]

/-- What step comes to. -/
def StepP (w : World) (pb off t : Nat) (T0 : AT) (ks : List (List Int)) (e : Ending) (w' : World) : Prop :=
  e = .returned (.bool true) ∧ ∃ T v L, Mv T0 T pb off w w' ∧ Pq AnyZ w' pb off t T v L L ks

set_option maxHeartbeats 2000000 in
set_option maxRecDepth 100000 in
theorem fz11_i (B : Nat) (w W : World) (pb off t h0 xb cx ck : Nat) (T0 T : AT) (v : Value) (L : List RowT) (ks : List (List Int)) (dov who val nv : Int) (Ak : Option Addr) (key : List Int) (sv s2 : Value) (hM : Mv T0 T pb off w W) (hpb : pb < w.heap.size)
    (hP : Pq (fun j => j ≠ xb) W pb off t T v L L ks) (hs : W.heap[h0]? = some (.cells #[.int .i64 dov, .int .i64 who, .slice Ak key.length ck, .int .i64 val, .int .i64 nv] 38 (0, 0)))
    (hrk : RdI W Ak key) (hkl : key.length ≤ 35184372087808) (hxb : w.heap.size ≤ xb) (hx : W.ownsRow B 21 1 (.slice (some ⟨xb, 0, none⟩) (key.length + 16) cx) (key.length + 16) ((key ++ marks 16).map enc32)) (hcx : key.length + 16 ≤ cx) (y7 y8 y9 y10 y11 y12 y13 y14 y15 y16 y17 y18 y19 y20 y21 y22 y23 y24 y25 y26 y27 y28 y29 y30 y31 y32 y33 y34 y35 y36 y37 y38 y39 y40 y41 y42 y43 y44 y45 y46 y47 y48 y49 y50 y51 y52 y53 y54 y55 y56 y57 y58 y59 y60 y61 y62 y63 y64 y65 y66 y67 y68 y69 y70 y71 y72 y73 y74 y75 y76 y77 y78 y79 y80 y81 y82 y83 y84 y85 y86 y87 y88 y89 y90 y91 y92 y93 y94 y95 y96 y97 y98 y99 y100 y101 y102 y103 y104 y105 y106 y107 y108 y109 y110 y111 y112 y113 y114 y115 y116 y117 y118 y119 y120 y121 y122 y123 y124 y125 y126 y127 y128 y129 y130 y131 y132 y133 y134 y135 y136 y137 y138 y139 y140 y141 y142 y143 y144 y145 y146 y147 y148 y149 y150 y151 y152 y153 y154 y155 y156 y157 y158 y159 y160 y161 y162 y163 y164 y165 y166 y167 y168 y169 y170 y171 y172 y173 y174 y175 y176 y177 y178 y179 : Value) :
    fz11.wp Try.prog (bodyPost Try.prog Try.f11 (StepP w pb off t T0 ks)) (fs11 pb off sv s2 h0 (.bool false) (.slice (some ⟨xb, 0, none⟩) key.length cx) (.bool true) y7 y8 y9 y10 y11 y12 y13 y14 y15 y16 y17 y18 y19 y20 y21 y22 y23 y24 y25 y26 y27 y28 y29 y30 y31 y32 y33 y34 y35 y36 y37 y38 y39 y40 y41 y42 y43 y44 y45 y46 y47 y48 y49 y50 y51 y52 y53 y54 y55 y56 y57 y58 y59 y60 y61 y62 y63 y64 y65 y66 y67 y68 y69 y70 y71 y72 y73 y74 y75 y76 y77 y78 y79 y80 y81 y82 y83 y84 y85 y86 y87 y88 y89 y90 y91 y92 y93 y94 y95 y96 y97 y98 y99 y100 y101 y102 y103 y104 y105 y106 y107 y108 y109 y110 y111 y112 y113 y114 y115 y116 y117 y118 y119 y120 y121 y122 y123 y124 y125 y126 y127 y128 y129 y130 y131 y132 y133 y134 y135 y136 y137 y138 y139 y140 y141 y142 y143 y144 y145 y146 y147 y148 y149 y150 y151 y152 y153 y154 y155 y156 y157 y158 y159 y160 y161 y162 y163 y164 y165 y166 y167 y168 y169 y170 y171 y172 y173 y174 y175 y176 y177 y178 y179) W := by
  have hrx : RdI W (some ⟨xb, 0, none⟩) (key ++ marks 16) := by
    have hl : key.length + 16 = (key ++ marks 16).length := by simp [marks_length]
    rw [hl] at hx
    exact rdI_of_own hx
  have hkept := Lib.hid (kept_i W (some ⟨xb, 0, none⟩) Ak cx ck key (by omega) hcx hrx hrk)
  have hk2 : W.cell? ⟨h0, 2, none⟩ = some (.slice Ak key.length ck) := by simp [World.cell?, hs]
  have hwl := hM.fr.size
  have hbx : ∃ c f, W.heap[xb]? = some (.cells c 21 f) := by
    rcases hx.2 with ⟨h1, _⟩ | ⟨g, cap, cur, h1, _, h2, _⟩
    · cases h1
    · injection h1 with h1
      injection h1 with h1
      injection h1 with h1 _
      subst h1
      exact ⟨_, _, h2⟩
  have HM := Lib.hid hM
  have HP := Lib.hid hP
  have HX := Lib.hid hx
  have Hbx := Lib.hid hbx
  obtain ⟨Av, cv, rfl⟩ := hP.ref.form
  clear hM hP hs hrk hx hrx hbx
  obtain ⟨QQ, hQQ⟩ : ∃ QQ, QQ = bodyPost Try.prog Try.f11 (StepP w pb off t T0 ks) := ⟨_, rfl⟩
  rw [← hQQ]
  replace hQQ := Lib.hid hQQ
  unfold fz11 fs11
  dsimp only [Try.f11, bodyOf, sqF, sqS, cdT, cdE, bkB, lpB, rfB]
  go_wp2_with fail
  refine hkept.out.mono ?_
  rintro e _ ⟨rfl, rfl⟩
  clear hkept hk2
  go_wp2
  go_loopw [21] (fun i wr => ∃ k : Nat, k ≤ key.length ∧ i = .int .i64 k ∧ Hid ((∃ ys, wr.ownsRow B 21 1 (.slice (some ⟨xb, 0, none⟩) (key.length + 16) cx) (key.length + 16) ys) ∧ Fr (fun j => j = xb) W wr)) (fun i _ => key.length - (intOf i).toNat)
  case atStart => exact ⟨0, by omega, rfl, ⟨_, HX.out⟩, Fr.refl _ _⟩
  case round =>
    obtain ⟨k, hk, rfl, hrel⟩ := hrel
    obtain ⟨⟨ys, ho⟩, hF⟩ := hrel.out
    clear hrel
    by_cases hlt : k < key.length
    · have hc := ho.cellAt k (by omega)
      have hyl : ys.length = key.length + 16 := by have := ho.1; omega
      obtain ⟨u, hu⟩ : ∃ u, ys[k]? = some u := ⟨ys[k], by simp [hyl]⟩
      rw [hu] at hc
      have hfz := ho.frozenAt k
      have ho2 := (ho.stored k (.int .i32 (-77))).1
      have H1 : Hid ((∃ ys, (wr.setCell ⟨xb, k, none⟩ (.int .i32 (-77))).ownsRow B 21 1 (.slice (some ⟨xb, 0, none⟩) (key.length + 16) cx) (key.length + 16) ys) ∧ Fr (fun j => j = xb) W (wr.setCell ⟨xb, k, none⟩ (.int .i32 (-77)))) :=
        Lib.hid ⟨⟨_, ho2⟩, hF.setCell (p := ⟨xb, k, none⟩) (.inl rfl) _⟩
      have g0 : (0 : Int) ≤ (k : Int) := by omega
      have g1 : (k : Int) < (key.length : Int) := by omega
      clear ho hF hu ho2 hyl
      go_wp2
      go_roundw
      case rel => exact ⟨k + 1, by omega, by go_num, H1⟩
      case measure => simp [intOf]; omega
    · have hM2 := HM.out.free hpb hF fun j e => by omega
      have hP2 : Pq AnyZ wr pb off t T (.slice Av L.length cv) L L ks := (HP.out.frame hF (fun j hj e => by
        obtain ⟨c, f, hb⟩ := Hbx.out
        subst e
        rcases HP.out.tri.ty hj hb with h | h <;> cases h) (fun e => by omega) fun j c ty f e hj _ hz => hz e).any
      have hlen : Hid (∀ m, Calls Try.prog 35 #[ptr t] (wr.drewN m) fun e w' => e = .returned (.int .i64 (L.length : Int)) ∧ wr.drewN m = w') := Lib.hid fun m =>
        tri_len ((hP2.fr ((Fr.refl Nob wr).drewN m)).tri)
      have hc0 := hP2.c0
      have hc1 := hP2.c1
      have hfin : Hid (∀ m, StepP w pb off t T0 ks (.returned (.bool true)) (wr.drewN m)) := Lib.hid fun m => ⟨rfl, T, _, L, hM2.free hpb ((Fr.refl Nob wr).drewN m) (fun _ h => h.elim), hP2.fr ((Fr.refl Nob wr).drewN m)⟩
      have e1 : ((L.length : Int) == (L.length : Int)) = true := by simp
      clear ho hF hM2 hP2 HM HP HX
      go_wp2
      go_quiet ((go_at_call 35; exact Calls.quiet_of_same ((hlen.out _).mono fun e w' ⟨h1, h2⟩ => ⟨h1, h2.symm⟩)))
      go_wp2
      rw [hQQ.out]
      go_ret
      exact hfin.out _
end Go.Proofs.Ytioflglfnalcaaa

/- TriePlays: step: printed by gen_pv.py. -/
namespace Go.Proofs.Ytioflglfnalcaaa
open Go.RowKit

theorem keys_len {L : List RowT} {ks : List (List Int)} (hs : Sorted L) (hk : ∀ x ∈ L, x.1 ∈ ks) : L.length ≤ ks.length := by
  have h0 : (L.map (·.1)).Nodup := by
    rw [List.Nodup, List.pairwise_map]
    refine hs.imp ?_
    intro x y h e
    rw [e] at h
    exact lx_irrefl _ h
  have := nodup_le (l' := ks) h0 fun q hq => by
    obtain ⟨x, hx, rfl⟩ := List.mem_map.1 hq
    exact hk x hx
  simpa using this

/-- step, in its midst. -/
structure SM (w W : World) (B B0 pb off t h0 xb cx ck : Nat) (Ti T : AT) (v : Value) (L M : List RowT) (ks : List (List Int)) (dov who val nv : Int) (Ak : Option Addr) (key : List Int) : Prop where
  mv : Mv Ti T pb off w W
  pq : Pq (fun j => j ≠ xb) W pb off t T v L M ks
  st : W.heap[h0]? = some (.cells #[.int .i64 dov, .int .i64 who, .slice Ak key.length ck, .int .i64 val, .int .i64 nv] 38 (0, 0))
  rk : RdI W Ak key
  own : W.ownsRow B 21 1 (.slice (some ⟨xb, 0, none⟩) (key.length + 16) cx) (key.length + 16) ((key ++ marks 16).map enc32)
  lk : ∀ ad, Ak = some ad → key ≠ [] → ad.block < B0
  tb : ∀ j, T.own j → B0 ≤ j
  pb0 : B0 ≤ pb
  pbl : pb < w.heap.size
  xbl : w.heap.size ≤ xb ∧ xb < W.heap.size
section
variable {w W W' : World} {B B0 pb off t h0 xb cx ck : Nat} {Ti T T' : AT} {v v' : Value} {L L' M M' : List RowT} {ks : List (List Int)} {dov who val nv : Int} {Ak : Option Addr} {key : List Int}
theorem SM.fr (h : SM w W B B0 pb off t h0 xb cx ck Ti T v L M ks dov who val nv Ak key) (k : Fr Nob W W') : SM w W' B B0 pb off t h0 xb cx ck Ti T v L M ks dov who val nv Ak key where
  mv := h.mv.free h.pbl k fun _ h => h.elim
  pq := h.pq.fr k
  st := k.heap h.st fun h => h
  rk := h.rk.frame k fun _ _ _ h => h
  own := ownsRow_nice h.own k (B0 := B0) (fun _ h => h.elim) (by decide)
  lk := h.lk
  tb := h.tb
  pb0 := h.pb0
  pbl := h.pbl
  xbl := ⟨h.xbl.1, Nat.lt_of_lt_of_le h.xbl.2 k.size⟩
theorem SM.new (h : SM w W B B0 pb off t h0 xb cx ck Ti T v L M ks dov who val nv Ak key) (k : Below W.heap.size W W') : SM w W' B B0 pb off t h0 xb cx ck Ti T v L M ks dov who val nv Ak key := h.fr (Fr.of_below k Nob)
theorem SM.setTri (h : SM w W B B0 pb off t h0 xb cx ck Ti T v L M ks dov who val nv Ak key) (hT : TrI W' t T' L' ks) (k : Fr T.own W W') (g : ∀ j, T'.own j → T.own j ∨ W.heap.size ≤ j) : SM w W' B B0 pb off t h0 xb cx ck Ti T' v L' M ks dov who val nv Ak key := by
  have hN := nice_own h.pq.tri h.tb
  exact { mv := h.mv.tri h.pbl h.pq.nown k g, pq := h.pq.setTri hT k g, st := k.heap h.st (hN.box h.st (by decide)), rk := h.rk.frame k fun ad e hne hS => by have := (hN _ hS).1; have := h.lk ad e hne; omega,
          own := ownsRow_nice h.own k hN (by decide), lk := h.lk, tb := fun j hj => by
            rcases g j hj with h1 | h1
            · exact h.tb j h1
            · have := h.mv.fr.size; have := h.pb0; have := h.pbl; omega
          pb0 := h.pb0, pbl := h.pbl, xbl := ⟨h.xbl.1, Nat.lt_of_lt_of_le h.xbl.2 k.size⟩ }
theorem SM.setRef (h : SM w W B B0 pb off t h0 xb cx ck Ti T v L M ks dov who val nv Ak key) (hr : RefIs (fun j => j ≠ xb) W v' M') (hm : ∀ x ∈ M', x.1 ∈ ks) (hs : Sorted M') : SM w (W.setCell ⟨pb, off + 1, none⟩ v') B B0 pb off t h0 xb cx ck Ti T v' L M' ks dov who val nv Ak key := by
  obtain ⟨c, hc⟩ := h.pq.ty
  have hN := nice_pb hc h.pb0
  have hF := pb_fr W pb off v'
  exact { mv := h.mv.set v', pq := h.pq.setRef hr hm (Nat.le_trans (keys_len hs hm) h.pq.tri.ksn), st := hF.heap h.st (hN.box h.st (by decide)), rk := h.rk.frame hF fun ad e hne hS => by have := (hN _ hS).1; have := h.lk ad e hne; omega,
          own := ownsRow_nice h.own hF hN (by decide), lk := h.lk, tb := h.tb, pb0 := h.pb0, pbl := h.pbl, xbl := ⟨h.xbl.1, Nat.lt_of_lt_of_le h.xbl.2 hF.size⟩ }
theorem SM.walk (h : SM w W B B0 pb off t h0 xb cx ck Ti T v L M ks dov who val nv Ak key) (hM : Mv T T' pb off W W') (hP : Pq (fun j => j ≠ xb ∨ W.heap.size ≤ j) W' pb off t T' v' L' M' ks) : SM w W' B B0 pb off t h0 xb cx ck Ti T' v' L' M' ks dov who val nv Ak key := by
  have hN : Nice B0 W (fun j => T.own j ∨ j = pb) := fun j hj => by
    rcases hj with hj | hj
    · exact nice_own h.pq.tri h.tb j hj
    · obtain ⟨c, hc⟩ := h.pq.ty
      exact nice_pb hc h.pb0 j hj
  have hx := h.xbl
  exact { mv := h.mv.trans hM, pq := hP.mono fun j _ hz => hz.elim id fun hz => (by show j ≠ xb; omega), st := hM.fr.heap h.st (hN.box h.st (by decide)), rk := h.rk.frame hM.fr fun ad e hne hS => by have := (hN _ hS).1; have := h.lk ad e hne; omega,
          own := ownsRow_nice h.own hM.fr hN (by decide), lk := h.lk, tb := fun j hj => by
            rcases hM.grow j hj with h1 | h1
            · exact h.tb j h1
            · have := h.mv.fr.size; have := h.pb0; have := h.pbl; omega
          pb0 := h.pb0, pbl := h.pbl, xbl := ⟨h.xbl.1, Nat.lt_of_lt_of_le h.xbl.2 hM.fr.size⟩ }
theorem SM.rx (h : SM w W B B0 pb off t h0 xb cx ck Ti T v L M ks dov who val nv Ak key) : RdI W (some ⟨xb, 0, none⟩) key := by
  have h1 := h.own
  have hl : key.length + 16 = (key ++ marks 16).length := by simp [marks_length]
  rw [hl] at h1
  have h2 := rdI_of_own h1
  intro k hk
  obtain ⟨b, o, e, hc⟩ := h2 k (by simp only [List.length_append]; omega)
  refine ⟨b, o, e, ?_⟩
  rw [hc]
  simp [List.getD, List.getElem?_append_left hk]
theorem SM.xno (h : SM w W B B0 pb off t h0 xb cx ck Ti T v L M ks dov who val nv Ak key) : ∀ ad, (some ⟨xb, 0, none⟩ : Option Addr) = some ad → key ≠ [] → ¬ T.own ad.block := fun ad e _ ho => by
  injection e with e
  subst e
  rcases h.own.2 with ⟨h1, _⟩ | ⟨g, cap, cur, h1, _, h2, _⟩
  · cases h1
  · injection h1 with h1
    injection h1 with h1
    injection h1 with h1 _
    subst h1
    rcases h.pq.tri.ty ho h2 with h3 | h3 <;> cases h3
theorem SM.lens (h : SM w W B B0 pb off t h0 xb cx ck Ti T v L M ks dov who val nv Ak key) : ∀ x ∈ M, x.1.length ≤ 35184372087808 := fun x hx => h.pq.tri.ksl _ (h.pq.mks x hx)
theorem SM.cap (h : SM w W B B0 pb off t h0 xb cx ck Ti T v L M ks dov who val nv Ak key) : key.length + 16 ≤ cx := by
  rcases h.own.2 with ⟨h1, _⟩ | ⟨g, cap, cur, h1, _, _, h2, _⟩
  · cases h1
  · injection h1 with _ _ h1
    subst h1
    exact h2
end

set_option maxHeartbeats 4000000 in
set_option maxRecDepth 100000 in
theorem step_end (w W : World) (B B0 pb off t h0 xb cx ck : Nat) (Ti T : AT) (v : Value) (L : List RowT) (ks : List (List Int)) (dov who val nv : Int) (Ak : Option Addr) (key : List Int) (sv s2 : Value) (h : SM w W B B0 pb off t h0 xb cx ck Ti T v L L ks dov who val nv Ak key) (hk : key ∈ ks) (y7 y8 y9 y10 y11 y12 y13 y14 y15 y16 y17 y18 y19 y20 y21 y22 y23 y24 y25 y26 y27 y28 y29 y30 y31 y32 y33 y34 y35 y36 y37 y38 y39 y40 y41 y42 y43 y44 y45 y46 y47 y48 y49 y50 y51 y52 y53 y54 y55 y56 y57 y58 y59 y60 y61 y62 y63 y64 y65 y66 y67 y68 y69 y70 y71 y72 y73 y74 y75 y76 y77 y78 y79 y80 y81 y82 y83 y84 y85 y86 y87 y88 y89 y90 y91 y92 y93 y94 y95 y96 y97 y98 y99 y100 y101 y102 y103 y104 y105 y106 y107 y108 y109 y110 y111 y112 y113 y114 y115 y116 y117 y118 y119 y120 y121 y122 y123 y124 y125 y126 y127 y128 y129 y130 y131 y132 y133 y134 y135 y136 y137 y138 y139 y140 y141 y142 y143 y144 y145 y146 y147 y148 y149 y150 y151 y152 y153 y154 y155 y156 y157 y158 y159 y160 y161 y162 y163 y164 y165 y166 y167 y168 y169 y170 y171 y172 y173 y174 y175 y176 y177 y178 y179 : Value) :
    fz11.wp Try.prog (bodyPost Try.prog Try.f11 (StepP w pb off t Ti ks)) (fs11 pb off sv s2 h0 (.bool false) (.slice (some ⟨xb, 0, none⟩) key.length cx) (.bool true) y7 y8 y9 y10 y11 y12 y13 y14 y15 y16 y17 y18 y19 y20 y21 y22 y23 y24 y25 y26 y27 y28 y29 y30 y31 y32 y33 y34 y35 y36 y37 y38 y39 y40 y41 y42 y43 y44 y45 y46 y47 y48 y49 y50 y51 y52 y53 y54 y55 y56 y57 y58 y59 y60 y61 y62 y63 y64 y65 y66 y67 y68 y69 y70 y71 y72 y73 y74 y75 y76 y77 y78 y79 y80 y81 y82 y83 y84 y85 y86 y87 y88 y89 y90 y91 y92 y93 y94 y95 y96 y97 y98 y99 y100 y101 y102 y103 y104 y105 y106 y107 y108 y109 y110 y111 y112 y113 y114 y115 y116 y117 y118 y119 y120 y121 y122 y123 y124 y125 y126 y127 y128 y129 y130 y131 y132 y133 y134 y135 y136 y137 y138 y139 y140 y141 y142 y143 y144 y145 y146 y147 y148 y149 y150 y151 y152 y153 y154 y155 y156 y157 y158 y159 y160 y161 y162 y163 y164 y165 y166 y167 y168 y169 y170 y171 y172 y173 y174 y175 y176 y177 y178 y179) W :=
  fz11_i B w W pb off t h0 xb cx ck Ti T v L ks dov who val nv Ak key sv s2 h.mv h.pbl h.pq h.st h.rk (h.pq.tri.ksl _ hk) h.xbl.1 h.own h.cap _ _ _ _ _ _ _ _ _ _ _ _ _ _ _ _ _ _ _ _ _ _ _ _ _ _ _ _ _ _ _ _ _ _ _ _ _ _ _ _ _ _ _ _ _ _ _ _ _ _ _ _ _ _ _ _ _ _ _ _ _ _ _ _ _ _ _ _ _ _ _ _ _ _ _ _ _ _ _ _ _ _ _ _ _ _ _ _ _ _ _ _ _ _ _ _ _ _ _ _ _ _ _ _ _ _ _ _ _ _ _ _ _ _ _ _ _ _ _ _ _ _ _ _ _ _ _ _ _ _ _ _ _ _ _ _ _ _ _ _ _ _ _ _ _ _ _ _ _ _ _ _ _ _ _ _ _ _ _ _ _ _ _ _ _ _ _ _ _ _ _ _ _

set_option maxHeartbeats 4000000 in
set_option maxRecDepth 100000 in
theorem step_i (w : World) (B0 pb off t : Nat) (T : AT) (v : Value) (L : List RowT) (ks : List (List Int)) (dov who val nv : Int) (Ak : Option Addr) (ck : Nat) (key : List Int)
    (hP : Pq AnyZ w pb off t T v L L ks) (hTi : ∀ j, T.own j → B0 ≤ j) (hB0 : B0 ≤ pb) (hkey : key ∈ ks) (hrk : RdI w Ak key) (hlk : ∀ ad, Ak = some ad → key ≠ [] → ad.block < B0) (hkn : Ak = none → ck = 0) (hkc : key.length ≤ ck) :
    Calls Try.prog 11 #[.pointer (some ⟨pb, off, none⟩), .agg #[.int .i64 dov, .int .i64 who, .slice Ak key.length ck, .int .i64 val, .int .i64 nv]] w (StepP w pb off t T ks) := by
  obtain ⟨Av, cv, rfl⟩ := hP.ref.form
  have hkl := hP.tri.ksl _ hkey
  have hLl := hP.tri.len
  have hpb := hP.lt
  obtain ⟨w0, hw0⟩ : ∃ w0, w0 = w.alloc (.cells #[.int .i64 dov, .int .i64 who, .slice Ak key.length ck, .int .i64 val, .int .i64 nv] 38) := ⟨_, rfl⟩
  have hb0 : Below w.heap.size w w0 := by rw [hw0]; exact (Below.refl _ _).alloc (Nat.le_refl _) _
  have hz0 : w0.heap.size = w.heap.size + 1 := by rw [hw0]; simp
  have bs0 : w0.heap[w.heap.size]? = some (.cells #[.int .i64 dov, .int .i64 who, .slice Ak key.length ck, .int .i64 val, .int .i64 nv] 38 (0, 0)) := by rw [hw0]; exact heap_alloc_eq _ _
  have hrk0 := rdI_below hrk hb0
  have hlent := Lib.hid (lent_i w0 Ak ck key (by omega) hrk0)
  have hst : Hid (∀ W xb cx, Below w0.heap.size w0 W → key.length + 16 ≤ cx → W.ownsRow w0.heap.size 21 1 (.slice (some ⟨xb, 0, none⟩) (key.length + 16) cx) (key.length + 16) ((key ++ marks 16).map enc32) → SM w W w0.heap.size B0 pb off t w.heap.size xb cx ck T T (.slice Av L.length cv) L L ks dov who val nv Ak key) := Lib.hid fun W xb cx hb _ ho => by
    have hbb : Below w.heap.size w W := hb0.trans (hb.mono (by omega))
    have hxb : w0.heap.size ≤ xb ∧ xb < W.heap.size := by
      rcases ho.2 with ⟨h1, _⟩ | ⟨g, cap, cur, h1, h2, h3, _⟩
      · cases h1
      · injection h1 with h1
        injection h1 with h1
        injection h1 with h1 _
        subst h1
        exact ⟨h2, lt_of_heap h3⟩
    exact ⟨(Mv.refl hP).new hpb hbb, (hP.tight.mono fun j hj h => by have : j < w.heap.size := h; show j ≠ xb; omega).new hbb, (hb.block _ (lt_of_heap bs0)).trans bs0, rdI_below hrk hbb, ho, hlk, hTi, hB0, hpb, by omega, hxb.2⟩
  have hb0s := hb0.size
  replace hw0 := Lib.hid hw0
  have hkn' := Lib.hid hkn
  clear hP hTi hrk hlk hb0 hz0 bs0 hrk0 hkn
  go_enter Try.func11, Try.ntmps11
  obtain ⟨QQ, hQQ⟩ : ∃ QQ, QQ = bodyPost Try.prog Try.f11 (StepP w pb off t T ks) := ⟨_, rfl⟩
  rw [← hQQ]
  replace hQQ := Lib.hid hQQ
  go_wp2_with fail
  rw [← hw0.out]
  refine hlent.out.mono ?_
  rintro e w1 ⟨xb, cx, rfl, hcx, ho, hb1⟩
  have h1 := hst.out w1 xb cx hb1 hcx ho
  clear ho hb1 hlent hst
  generalize hB : w0.heap.size = B at *
  clear hB hw0
  have hh0 := Lib.hid (rfl : w.heap.size = w.heap.size)
  have k0 : w1.cell? ⟨w.heap.size, 0, none⟩ = some (.int .i64 dov) := by simp [World.cell?, h1.st]
  obtain ⟨h0, hh⟩ : ∃ h0, h0 = w.heap.size := ⟨_, rfl⟩
  rw [← hh] at h1 k0 ⊢
  replace h1 := Lib.hid h1
  replace hh := Lib.hid hh
  clear hh0
  have hend : Hid (∀ W T' v' L', SM w W B B0 pb off t h0 xb cx ck T T' v' L' L' ks dov who val nv Ak key → ∀ sv s2 y7 y8 y9 y10 y11 y12 y13 y14 y15 y16 y17 y18 y19 y20 y21 y22 y23 y24 y25 y26 y27 y28 y29 y30 y31 y32 y33 y34 y35 y36 y37 y38 y39 y40 y41 y42 y43 y44 y45 y46 y47 y48 y49 y50 y51 y52 y53 y54 y55 y56 y57 y58 y59 y60 y61 y62 y63 y64 y65 y66 y67 y68 y69 y70 y71 y72 y73 y74 y75 y76 y77 y78 y79 y80 y81 y82 y83 y84 y85 y86 y87 y88 y89 y90 y91 y92 y93 y94 y95 y96 y97 y98 y99 y100 y101 y102 y103 y104 y105 y106 y107 y108 y109 y110 y111 y112 y113 y114 y115 y116 y117 y118 y119 y120 y121 y122 y123 y124 y125 y126 y127 y128 y129 y130 y131 y132 y133 y134 y135 y136 y137 y138 y139 y140 y141 y142 y143 y144 y145 y146 y147 y148 y149 y150 y151 y152 y153 y154 y155 y156 y157 y158 y159 y160 y161 y162 y163 y164 y165 y166 y167 y168 y169 y170 y171 y172 y173 y174 y175 y176 y177 y178 y179, fz11.wp Try.prog QQ (fs11 pb off sv s2 h0 (.bool false) (.slice (some ⟨xb, 0, none⟩) key.length cx) (.bool true) y7 y8 y9 y10 y11 y12 y13 y14 y15 y16 y17 y18 y19 y20 y21 y22 y23 y24 y25 y26 y27 y28 y29 y30 y31 y32 y33 y34 y35 y36 y37 y38 y39 y40 y41 y42 y43 y44 y45 y46 y47 y48 y49 y50 y51 y52 y53 y54 y55 y56 y57 y58 y59 y60 y61 y62 y63 y64 y65 y66 y67 y68 y69 y70 y71 y72 y73 y74 y75 y76 y77 y78 y79 y80 y81 y82 y83 y84 y85 y86 y87 y88 y89 y90 y91 y92 y93 y94 y95 y96 y97 y98 y99 y100 y101 y102 y103 y104 y105 y106 y107 y108 y109 y110 y111 y112 y113 y114 y115 y116 y117 y118 y119 y120 y121 y122 y123 y124 y125 y126 y127 y128 y129 y130 y131 y132 y133 y134 y135 y136 y137 y138 y139 y140 y141 y142 y143 y144 y145 y146 y147 y148 y149 y150 y151 y152 y153 y154 y155 y156 y157 y158 y159 y160 y161 y162 y163 y164 y165 y166 y167 y168 y169 y170 y171 y172 y173 y174 y175 y176 y177 y178 y179) W) := Lib.hid fun W T' v' L' h sv s2 y7 y8 y9 y10 y11 y12 y13 y14 y15 y16 y17 y18 y19 y20 y21 y22 y23 y24 y25 y26 y27 y28 y29 y30 y31 y32 y33 y34 y35 y36 y37 y38 y39 y40 y41 y42 y43 y44 y45 y46 y47 y48 y49 y50 y51 y52 y53 y54 y55 y56 y57 y58 y59 y60 y61 y62 y63 y64 y65 y66 y67 y68 y69 y70 y71 y72 y73 y74 y75 y76 y77 y78 y79 y80 y81 y82 y83 y84 y85 y86 y87 y88 y89 y90 y91 y92 y93 y94 y95 y96 y97 y98 y99 y100 y101 y102 y103 y104 y105 y106 y107 y108 y109 y110 y111 y112 y113 y114 y115 y116 y117 y118 y119 y120 y121 y122 y123 y124 y125 y126 y127 y128 y129 y130 y131 y132 y133 y134 y135 y136 y137 y138 y139 y140 y141 y142 y143 y144 y145 y146 y147 y148 y149 y150 y151 y152 y153 y154 y155 y156 y157 y158 y159 y160 y161 y162 y163 y164 y165 y166 y167 y168 y169 y170 y171 y172 y173 y174 y175 y176 y177 y178 y179 => by
    rw [hQQ.out]; exact step_end w W B B0 pb off t h0 xb cx ck T T' v' L' ks dov who val nv Ak key sv s2 h hkey _ _ _ _ _ _ _ _ _ _ _ _ _ _ _ _ _ _ _ _ _ _ _ _ _ _ _ _ _ _ _ _ _ _ _ _ _ _ _ _ _ _ _ _ _ _ _ _ _ _ _ _ _ _ _ _ _ _ _ _ _ _ _ _ _ _ _ _ _ _ _ _ _ _ _ _ _ _ _ _ _ _ _ _ _ _ _ _ _ _ _ _ _ _ _ _ _ _ _ _ _ _ _ _ _ _ _ _ _ _ _ _ _ _ _ _ _ _ _ _ _ _ _ _ _ _ _ _ _ _ _ _ _ _ _ _ _ _ _ _ _ _ _ _ _ _ _ _ _ _ _ _ _ _ _ _ _ _ _ _ _ _ _ _ _ _ _ _ _ _ _ _ _
  have hcv := h1.out.pq.c1
  have hck : w1.cell? ⟨h0, 2, none⟩ = some (.slice Ak key.length ck) := by simp [World.cell?, h1.out.st]
  have hsrt : Sorted L := h1.out.pq.tri.sorted
  have hlks := h1.out.pq.tri.lks
  by_cases hd0 : dov = 0
  · subst hd0
    have hput : Hid (∀ w', Below w1.heap.size w1 w' → Calls Try.prog 37 #[.agg #[.slice Av L.length cv], .slice Ak key.length ck, .int .i64 val] w' (NewRef2 (fun j => j ≠ xb) w' (putR L key val) (hasR L key))) := Lib.hid fun w' hb =>
      rput_i w' _ _ L Ak ck key val (h1.out.new hb).pq.ref (by omega) (h1.out.new hb).lens (h1.out.new hb).rk hkl
    have hmem : ∀ x ∈ putR L key val, x.1 ∈ ks := fun x hx => by
      rcases (putR_mem hsrt key val x).1 hx with rfl | ⟨_, hx⟩
      · exact hkey
      · exact hlks x hx
    go_upto_region 5 with fail
    refine wpIn_wide.1 (s5_i 0 _ w1 _ _ _ _ pb off h0 ck L.length cv Ak Av key 0 who val nv (fun j => j ≠ xb) (putR L key val) (hasR L key) hcv h1.out.st hput.out _ _ _ _ _ _ _ _ _ _ _ _ _ _ _ _ _ _ _ _ _ _ _ _ _ _ _ _ _ _ _ _ _ _ _ _ _ _ _ _ _ _ _ _ _ _ _ _ _ _ _ _ _ _ _ _ _ _ _ _ _ _ _ _ _ _ _ _ _ _ _ _ _ _ _ _ _ _ _ _ _ _ _ _ _ _ _ _ _ _ _ _ _ _ _ _ _ _ _ _ _ _ _ _ _ _ _ _ _ _ _ _ _ _ _ _ _ _ _ _ _ _ _ _ _ _ _ _ _ _ _ _ _ _ _ _ _ _ _ _ _ _ _ _ _ _ _ _ _ _ _ _ _ _ _ _ _ _ _ _ _ _ _ _ _ _ _ _ _ _ _ _ _ _ ?_)
    rintro w2 q A1 c1 hb2 hq1 hq2 hr2
    intro _ _ _ _ _ _ _ _ _ _ _ _
    have h2 := h1.out.new hb2
    have hx2 := h1.out.xbl
    have hr2' : RefIs (fun j => j ≠ xb) w2 (.slice A1 (putR L key val).length c1) (putR L key val) := hr2.mono fun j _ hz => hz.elim id fun hz => (by show j ≠ xb; omega)
    have h3 := h2.setRef hr2' hmem (putR_sorted hsrt key val)
    obtain ⟨w3, hw3⟩ : ∃ w3, w3 = w2.setCell ⟨pb, off + 1, none⟩ (.slice A1 (putR L key val).length c1) := ⟨_, rfl⟩
    have hqc := hq2.cell
    have hcv2 := h2.pq.c1
    have hfz2 := h2.pq.fz (off + 1)
    rw [← hw3] at h3
    have hct3 := h3.pq.c0
    have hk3 : w3.cell? ⟨h0, 3, none⟩ = some (.int .i64 val) := by simp [World.cell?, h3.st]
    have htp : Hid (Calls Try.prog 14 #[ptr t, (.slice (some ⟨xb, 0, none⟩) key.length cx), .int .i64 val] w3.drew (fun e w' => e = .returned (.bool (hasR L key)) ∧ ∃ T', TrI w' t T' (putR L key val) ks ∧ Fr T.own w3 w' ∧ ∀ j, T'.own j → T.own j ∨ w3.heap.size ≤ j)) := Lib.hid (by
      have hd := h3.fr ((Fr.refl Nob w3).drew)
      refine (tri_put hd.pq.tri (some ⟨xb, 0, none⟩) cx key val hkey hd.rx hd.xno).mono ?_
      rintro e w' ⟨g1, T', g2, g3, g4⟩
      exact ⟨g1, T', g2, (Fr.refl T.own w3).drew.trans g3 (fun _ _ h => h), g4⟩)
    replace h3 := Lib.hid h3
    replace hw3 := Lib.hid hw3
    clear h2 hb2 hq2 hr2 hr2' hput hcv hck k0
    unfold fs11
    go_upto_region 7 with fail
    rw [← hw3.out]
    refine wpIn_wide.1 (s7_i 0 _ w3 _ _ _ pb off h0 ck t cx Ak none key (.slice (some ⟨xb, 0, none⟩) key.length cx) val (hasR L key) (hasR L key) _ hct3 hk3 htp.out _ _ _ _ _ _ _ _ _ _ _ _ _ _ _ _ _ _ _ _ _ _ _ _ _ _ _ _ _ _ _ _ _ _ _ _ _ _ _ _ _ _ _ _ _ _ _ _ _ _ _ _ _ _ _ _ _ _ _ _ _ _ _ _ _ _ _ _ _ _ _ _ _ _ _ _ _ _ _ _ _ _ _ _ _ _ _ _ _ _ _ _ _ _ _ _ _ _ _ _ _ _ _ _ _ _ _ _ _ _ _ _ _ _ _ _ _ _ _ _ _ _ _ _ _ _ _ _ _ _ _ _ _ _ _ _ _ _ _ _ _ _ _ _ _ _ _ _ _ _ _ _ _ _ _ _ _ _ _ _ _ _ _ _ _ _ _ _ _ _ _ _ _ ?_)
    rintro w4 ⟨T4, hT4, hF4, hg4⟩
    have hx := Lib.hid (hend.out w4 T4 _ _ (h3.out.setTri hT4 hF4 hg4))
    rw [show (hasR L key == hasR L key) = true by simp]
    clear h3 hT4 hF4 hg4 htp hw3 hend h1 hlks hmem hsrt hct3 hk3
    intro _ _ _ _ _ _ _ _ _ _
    unfold fs11
    repeat ((fail_if_success (show Code.wp _ (Code.seq (Code.seq (Code.region 23 _ _) _) _) _ _ _)); first | go_values | go_skip | go_guarded | go_step | go_upon | go_back | (simp only [Int.not_lt, Int.not_le] at *; go_simp) | (go_values <;> (try go_simp)))
    exact hx.out _ _ _ _ _ _ _ _ _ _ _ _ _ _ _ _ _ _ _ _ _ _ _ _ _ _ _ _ _ _ _ _ _ _ _ _ _ _ _ _ _ _ _ _ _ _ _ _ _ _ _ _ _ _ _ _ _ _ _ _ _ _ _ _ _ _ _ _ _ _ _ _ _ _ _ _ _ _ _ _ _ _ _ _ _ _ _ _ _ _ _ _ _ _ _ _ _ _ _ _ _ _ _ _ _ _ _ _ _ _ _ _ _ _ _ _ _ _ _ _ _ _ _ _ _ _ _ _ _ _ _ _ _ _ _ _ _ _ _ _ _ _ _ _ _ _ _ _ _ _ _ _ _ _ _ _ _ _ _ _ _ _ _ _ _ _ _ _ _ _ _ _ _ _ _
  by_cases hd1 : dov = 1
  · subst hd1
    have hget : Hid (Calls Try.prog 38 #[.agg #[.slice Av L.length cv], .slice Ak key.length ck] w1.drew (fun e w' => e = .returned (.tuple #[.int .i64 (getR L key).1, .bool (getR L key).2]) ∧ Below w1.heap.size w1 w')) := Lib.hid (by
      have hd := h1.out.fr ((Fr.refl Nob w1).drew)
      exact (rget_i w1.drew _ _ L Ak ck key hd.pq.ref (by omega) hd.lens hd.rk).mono fun e w' ⟨g1, g2⟩ => ⟨g1, ((Below.refl w1.heap.size w1).drew).trans g2⟩)
    go_upto_region 9 with fail
    refine wpIn_wide.1 (s9_i 0 _ w1 _ _ _ pb off h0 ck L.length cv Ak Av key _ (getR L key).1 (getR L key).2 _ hcv hck hget.out _ _ _ _ _ _ _ _ _ _ _ _ _ _ _ _ _ _ _ _ _ _ _ _ _ _ _ _ _ _ _ _ _ _ _ _ _ _ _ _ _ _ _ _ _ _ _ _ _ _ _ _ _ _ _ _ _ _ _ _ _ _ _ _ _ _ _ _ _ _ _ _ _ _ _ _ _ _ _ _ _ _ _ _ _ _ _ _ _ _ _ _ _ _ _ _ _ _ _ _ _ _ _ _ _ _ _ _ _ _ _ _ _ _ _ _ _ _ _ _ _ _ _ _ _ _ _ _ _ _ _ _ _ _ _ _ _ _ _ _ _ _ _ _ _ _ _ _ _ _ _ _ _ _ _ _ _ _ _ _ _ _ _ _ _ _ _ _ _ _ _ _ _ _ ?_)
    rintro w2 hb2
    intro _ _ _ _ _ _ _ _ _ _
    have h2 := h1.out.new hb2
    have hg2 := Lib.hid (tri_get h2.pq.tri (some ⟨xb, 0, none⟩) cx key hkl h2.rx)
    have hct2 := h2.pq.c0
    have hx := Lib.hid (hend.out w2 T _ _ h2)
    have eg : ((getR L key).1 == (getR L key).1) = true := by simp
    have eb : ((getR L key).2 == (getR L key).2) = true := by simp
    clear h2 hb2 hget hend h1 hlks hsrt hcv hck k0
    generalize (getR L key).1 = g at *
    generalize (getR L key).2 = b at *
    unfold fs11
    go_wp2_with fail
    refine hg2.out.mono ?_
    rintro e _ ⟨rfl, rfl⟩
    repeat ((fail_if_success (show Code.wp _ (Code.seq (Code.seq (Code.region 23 _ _) _) _) _ _ _)); first | go_values | go_skip | go_guarded | go_step | go_upon | go_back | (simp only [Int.not_lt, Int.not_le] at *; go_simp) | (go_values <;> (try go_simp)))
    exact hx.out _ _ _ _ _ _ _ _ _ _ _ _ _ _ _ _ _ _ _ _ _ _ _ _ _ _ _ _ _ _ _ _ _ _ _ _ _ _ _ _ _ _ _ _ _ _ _ _ _ _ _ _ _ _ _ _ _ _ _ _ _ _ _ _ _ _ _ _ _ _ _ _ _ _ _ _ _ _ _ _ _ _ _ _ _ _ _ _ _ _ _ _ _ _ _ _ _ _ _ _ _ _ _ _ _ _ _ _ _ _ _ _ _ _ _ _ _ _ _ _ _ _ _ _ _ _ _ _ _ _ _ _ _ _ _ _ _ _ _ _ _ _ _ _ _ _ _ _ _ _ _ _ _ _ _ _ _ _ _ _ _ _ _ _ _ _ _ _ _ _ _ _ _ _ _
  by_cases hd2 : dov = 2
  · subst hd2
    have hget : Hid (Calls Try.prog 39 #[.agg #[.slice Av L.length cv], .slice Ak key.length ck] w1.drew (fun e w' => e = .returned (.tuple #[.int .i64 (lonVal (lonR L key)).1, .int .i64 ((lonVal (lonR L key)).2.1 : Int), .bool (lonVal (lonR L key)).2.2]) ∧ Below w1.heap.size w1 w')) := Lib.hid (by
      have hd := h1.out.fr ((Fr.refl Nob w1).drew)
      exact (rlong_i w1.drew _ _ L Ak ck key hd.pq.ref (by omega) hd.lens hd.rk hkc).mono fun e w' ⟨g1, g2⟩ => ⟨g1, ((Below.refl w1.heap.size w1).drew).trans g2⟩)
    go_upto_region 13 with fail
    refine wpIn_wide.1 (s13_i 0 _ w1 _ _ _ pb off h0 ck L.length cv Ak Av key _ (lonVal (lonR L key)).1 ((lonVal (lonR L key)).2.1 : Int) (lonVal (lonR L key)).2.2 _ hcv hck hget.out _ _ _ _ _ _ _ _ _ _ _ _ _ _ _ _ _ _ _ _ _ _ _ _ _ _ _ _ _ _ _ _ _ _ _ _ _ _ _ _ _ _ _ _ _ _ _ _ _ _ _ _ _ _ _ _ _ _ _ _ _ _ _ _ _ _ _ _ _ _ _ _ _ _ _ _ _ _ _ _ _ _ _ _ _ _ _ _ _ _ _ _ _ _ _ _ _ _ _ _ _ _ _ _ _ _ _ _ _ _ _ _ _ _ _ _ _ _ _ _ _ _ _ _ _ _ _ _ _ _ _ _ _ _ _ _ _ _ _ _ _ _ _ _ _ _ _ _ _ _ _ _ _ _ _ _ _ _ _ _ _ _ _ _ _ _ _ _ _ _ _ _ _ _ ?_)
    rintro w2 hb2
    intro _ _ _ _ _ _ _ _ _ _ _
    have h2 := h1.out.new hb2
    have hg2 := Lib.hid (tri_long h2.pq.tri (some ⟨xb, 0, none⟩) cx key hkl h2.rx)
    have hct2 := h2.pq.c0
    have hx2 := Lib.hid (fun m => hend.out (w2.drewN m) T _ _ (h2.fr ((Fr.refl Nob w2).drewN m)))
    have eg : ((lonVal (lonR L key)).1 == (lonVal (lonR L key)).1) = true := by simp
    have em : (((lonVal (lonR L key)).2.1 : Int) == ((lonVal (lonR L key)).2.1 : Int)) = true := by simp
    have eb : ((lonVal (lonR L key)).2.2 == (lonVal (lonR L key)).2.2) = true := by simp
    clear h2 hb2 hget hend h1 hlks hsrt hcv hck k0
    generalize (lonVal (lonR L key)).2.2 = b at *
    generalize ((lonVal (lonR L key)).2.1 : Int) = m at *
    generalize (lonVal (lonR L key)).1 = g at *
    unfold fs11
    go_wp2_with fail
    refine hg2.out.mono ?_
    rintro e _ ⟨rfl, m2, rfl⟩
    have hx := Lib.hid (hx2.out m2)
    clear hx2 hg2
    repeat ((fail_if_success (show Code.wp _ (Code.seq (Code.seq (Code.region 23 _ _) _) _) _ _ _)); first | go_values | go_skip | go_guarded | go_step | go_upon | go_back | (simp only [Int.not_lt, Int.not_le] at *; go_simp) | (go_values <;> (try go_simp)))
    exact hx.out _ _ _ _ _ _ _ _ _ _ _ _ _ _ _ _ _ _ _ _ _ _ _ _ _ _ _ _ _ _ _ _ _ _ _ _ _ _ _ _ _ _ _ _ _ _ _ _ _ _ _ _ _ _ _ _ _ _ _ _ _ _ _ _ _ _ _ _ _ _ _ _ _ _ _ _ _ _ _ _ _ _ _ _ _ _ _ _ _ _ _ _ _ _ _ _ _ _ _ _ _ _ _ _ _ _ _ _ _ _ _ _ _ _ _ _ _ _ _ _ _ _ _ _ _ _ _ _ _ _ _ _ _ _ _ _ _ _ _ _ _ _ _ _ _ _ _ _ _ _ _ _ _ _ _ _ _ _ _ _ _ _ _ _ _ _ _ _ _ _ _ _ _ _ _
  by_cases hd3 : dov = 3
  · subst hd3
    have hput : Hid (∀ w', Below w1.heap.size w1 w' → Calls Try.prog 40 #[.agg #[.slice Av L.length cv], .slice Ak key.length ck] w' (NewRef2 (fun j => j ≠ xb) w' (takeR L key) (hasR L key))) := Lib.hid fun w' hb =>
      rtake_i w' _ _ L Ak ck key (h1.out.new hb).pq.ref (by omega) (h1.out.new hb).lens (h1.out.new hb).rk
    have hmem : ∀ x ∈ takeR L key, x.1 ∈ ks := fun x hx => hlks x ((takeR_mem L key x).1 hx).2
    go_upto_region 17 with fail
    refine wpIn_wide.1 (s17_i 0 _ w1 _ _ _ _ pb off h0 ck L.length cv Ak Av key 3 who val nv (fun j => j ≠ xb) (takeR L key) (hasR L key) hcv h1.out.st hput.out _ _ _ _ _ _ _ _ _ _ _ _ _ _ _ _ _ _ _ _ _ _ _ _ _ _ _ _ _ _ _ _ _ _ _ _ _ _ _ _ _ _ _ _ _ _ _ _ _ _ _ _ _ _ _ _ _ _ _ _ _ _ _ _ _ _ _ _ _ _ _ _ _ _ _ _ _ _ _ _ _ _ _ _ _ _ _ _ _ _ _ _ _ _ _ _ _ _ _ _ _ _ _ _ _ _ _ _ _ _ _ _ _ _ _ _ _ _ _ _ _ _ _ _ _ _ _ _ _ _ _ _ _ _ _ _ _ _ _ _ _ _ _ _ _ _ _ _ _ _ _ _ _ _ _ _ _ _ _ _ _ _ _ _ _ _ _ _ _ _ _ _ _ _ ?_)
    rintro w2 q A1 c1 hb2 hq1 hq2 hr2
    intro _ _ _ _ _ _ _ _ _ _
    have h2 := h1.out.new hb2
    have hx2 := h1.out.xbl
    have hr2' : RefIs (fun j => j ≠ xb) w2 (.slice A1 (takeR L key).length c1) (takeR L key) := hr2.mono fun j _ hz => hz.elim id fun hz => (by show j ≠ xb; omega)
    have h3 := h2.setRef hr2' hmem (takeR_sorted hsrt key)
    obtain ⟨w3, hw3⟩ : ∃ w3, w3 = w2.setCell ⟨pb, off + 1, none⟩ (.slice A1 (takeR L key).length c1) := ⟨_, rfl⟩
    have hqc := hq2.cell
    have hcv2 := h2.pq.c1
    have hct2 := h2.pq.c0
    have hfz2 := h2.pq.fz (off + 1)
    rw [← hw3] at h3
    have hct3 := h3.pq.c0
    have hct3E := hct3
    rw [hw3] at hct3E
    have htp : Hid (Calls Try.prog 34 #[ptr t, (.slice (some ⟨xb, 0, none⟩) key.length cx)] w3 (fun e w' => e = .returned (.bool (hasR L key)) ∧ ∃ T', TrI w' t T' (takeR L key) ks ∧ Fr T.own w3 w' ∧ ∀ j, T'.own j → T.own j ∨ w3.heap.size ≤ j)) := Lib.hid (
      tri_take h3.pq.tri (some ⟨xb, 0, none⟩) cx key hkl h3.rx)
    replace h3 := Lib.hid h3
    replace hw3 := Lib.hid hw3
    have eb : (hasR L key == hasR L key) = true := by simp
    clear h2 hb2 hq2 hr2 hr2' hput hcv hck k0
    unfold fs11
    go_wp2_with fail
    rw [← hw3.out]
    refine htp.out.mono ?_
    rintro e w4 ⟨rfl, T4, hT4, hF4, hg4⟩
    have hx := Lib.hid (hend.out w4 T4 _ _ (h3.out.setTri hT4 hF4 hg4))
    clear h3 hT4 hF4 hg4 htp hw3 hend h1 hlks hmem hsrt hct3 hct3E hct2
    generalize hasR L key = b at *
    repeat ((fail_if_success (show Code.wp _ (Code.seq (Code.seq (Code.region 23 _ _) _) _) _ _ _)); first | go_values | go_skip | go_guarded | go_step | go_upon | go_back | (simp only [Int.not_lt, Int.not_le] at *; go_simp) | (go_values <;> (try go_simp)))
    exact hx.out _ _ _ _ _ _ _ _ _ _ _ _ _ _ _ _ _ _ _ _ _ _ _ _ _ _ _ _ _ _ _ _ _ _ _ _ _ _ _ _ _ _ _ _ _ _ _ _ _ _ _ _ _ _ _ _ _ _ _ _ _ _ _ _ _ _ _ _ _ _ _ _ _ _ _ _ _ _ _ _ _ _ _ _ _ _ _ _ _ _ _ _ _ _ _ _ _ _ _ _ _ _ _ _ _ _ _ _ _ _ _ _ _ _ _ _ _ _ _ _ _ _ _ _ _ _ _ _ _ _ _ _ _ _ _ _ _ _ _ _ _ _ _ _ _ _ _ _ _ _ _ _ _ _ _ _ _ _ _ _ _ _ _ _ _ _ _ _ _ _ _ _ _ _ _
  by_cases hd4 : dov = 4 ∨ dov = 5
  · have k1 : w1.cell? ⟨h0, 1, none⟩ = some (.int .i64 who) := by simp [World.cell?, h1.out.st]
    have k3 : w1.cell? ⟨h0, 3, none⟩ = some (.int .i64 val) := by simp [World.cell?, h1.out.st]
    have k4 : w1.cell? ⟨h0, 4, none⟩ = some (.int .i64 nv) := by simp [World.cell?, h1.out.st]
    have hwk := Lib.hid (walked_i (fun j => j ≠ xb) w1 B0 pb off t T (.slice Av L.length cv) L ks dov who val nv Ak ck key h1.out.pq h1.out.tb h1.out.pb0 hkey h1.out.rk h1.out.lk hkn'.out)
    rcases hd4 with rfl | rfl
    · clear hlks hsrt hcv
      go_wp2_with fail
      refine hwk.out.mono ?_
      rintro e w2 ⟨rfl, T', v', L', hM2, hP2⟩
      have hx := Lib.hid (hend.out w2 T' _ _ (h1.out.walk hM2 hP2))
      clear hM2 hP2 hwk hend h1 k0 k1 k3 k4 hck
      repeat ((fail_if_success (show Code.wp _ (Code.seq (Code.seq (Code.region 23 _ _) _) _) _ _ _)); first | go_values | go_skip | go_guarded | go_step | go_upon | go_back | (simp only [Int.not_lt, Int.not_le] at *; go_simp) | (go_values <;> (try go_simp)))
      exact hx.out _ _ _ _ _ _ _ _ _ _ _ _ _ _ _ _ _ _ _ _ _ _ _ _ _ _ _ _ _ _ _ _ _ _ _ _ _ _ _ _ _ _ _ _ _ _ _ _ _ _ _ _ _ _ _ _ _ _ _ _ _ _ _ _ _ _ _ _ _ _ _ _ _ _ _ _ _ _ _ _ _ _ _ _ _ _ _ _ _ _ _ _ _ _ _ _ _ _ _ _ _ _ _ _ _ _ _ _ _ _ _ _ _ _ _ _ _ _ _ _ _ _ _ _ _ _ _ _ _ _ _ _ _ _ _ _ _ _ _ _ _ _ _ _ _ _ _ _ _ _ _ _ _ _ _ _ _ _ _ _ _ _ _ _ _ _ _ _ _ _ _ _ _ _ _
    · clear hlks hsrt hcv
      go_wp2_with fail
      refine hwk.out.mono ?_
      rintro e w2 ⟨rfl, T', v', L', hM2, hP2⟩
      have hx := Lib.hid (hend.out w2 T' _ _ (h1.out.walk hM2 hP2))
      clear hM2 hP2 hwk hend h1 k0 k1 k3 k4 hck
      repeat ((fail_if_success (show Code.wp _ (Code.seq (Code.seq (Code.region 23 _ _) _) _) _ _ _)); first | go_values | go_skip | go_guarded | go_step | go_upon | go_back | (simp only [Int.not_lt, Int.not_le] at *; go_simp) | (go_values <;> (try go_simp)))
      exact hx.out _ _ _ _ _ _ _ _ _ _ _ _ _ _ _ _ _ _ _ _ _ _ _ _ _ _ _ _ _ _ _ _ _ _ _ _ _ _ _ _ _ _ _ _ _ _ _ _ _ _ _ _ _ _ _ _ _ _ _ _ _ _ _ _ _ _ _ _ _ _ _ _ _ _ _ _ _ _ _ _ _ _ _ _ _ _ _ _ _ _ _ _ _ _ _ _ _ _ _ _ _ _ _ _ _ _ _ _ _ _ _ _ _ _ _ _ _ _ _ _ _ _ _ _ _ _ _ _ _ _ _ _ _ _ _ _ _ _ _ _ _ _ _ _ _ _ _ _ _ _ _ _ _ _ _ _ _ _ _ _ _ _ _ _ _ _ _ _ _ _ _ _ _ _ _
  have hd5 : ¬ dov = 4 := fun h => hd4 (.inl h)
  have hd6 : ¬ dov = 5 := fun h => hd4 (.inr h)
  have e0 : (dov == 0) = false := by simp [hd0]
  have e1 : (dov == 1) = false := by simp [hd1]
  have e2 : (dov == 2) = false := by simp [hd2]
  have e3 : (dov == 3) = false := by simp [hd3]
  have e4 : (dov == 4) = false := by simp [hd5]
  have e5 : (dov == 5) = false := by simp [hd6]
  have hx := Lib.hid (hend.out w1 T _ _ h1.out)
  clear hend h1 hlks hsrt hcv hck
  repeat ((fail_if_success (show Code.wp _ (Code.seq (Code.seq (Code.region 23 _ _) _) _) _ _ _)); first | go_values | go_skip | go_guarded | go_step | go_upon | go_back | (simp only [Int.not_lt, Int.not_le] at *; go_simp) | (go_values <;> (try go_simp)))
  exact hx.out _ _ _ _ _ _ _ _ _ _ _ _ _ _ _ _ _ _ _ _ _ _ _ _ _ _ _ _ _ _ _ _ _ _ _ _ _ _ _ _ _ _ _ _ _ _ _ _ _ _ _ _ _ _ _ _ _ _ _ _ _ _ _ _ _ _ _ _ _ _ _ _ _ _ _ _ _ _ _ _ _ _ _ _ _ _ _ _ _ _ _ _ _ _ _ _ _ _ _ _ _ _ _ _ _ _ _ _ _ _ _ _ _ _ _ _ _ _ _ _ _ _ _ _ _ _ _ _ _ _ _ _ _ _ _ _ _ _ _ _ _ _ _ _ _ _ _ _ _ _ _ _ _ _ _ _ _ _ _ _ _ _ _ _ _ _ _ _ _ _ _ _ _ _ _
end Go.Proofs.Ytioflglfnalcaaa

/- TriePlays: the rounds of its walks over iterators: printed by gen_px.py. -/
namespace Go.Proofs.Ytioflglfnalcaaa
open Go.RowKit

attribute [local go_sem] Oper.semAt_some

def fT (y0 y1 y2 y3 y4 y5 y6 y7 y8 y9 y10 y11 y12 y13 y14 y15 y16 y17 y18 y19 y20 y21 y22 y23 y24 y25 y26 y27 y28 y29 y30 y31 y32 y33 y34 y35 y36 y37 y38 y39 y40 y41 y42 y43 y44 y45 y46 y47 y48 y49 y50 y51 y52 y53 y54 y55 y56 y57 y58 y59 y60 y61 y62 y63 y64 y65 y66 y67 y68 y69 y70 y71 y72 y73 y74 y75 y76 y77 y78 y79 y80 y81 y82 y83 y84 y85 y86 y87 y88 y89 y90 y91 y92 y93 y94 y95 y96 y97 y98 y99 y100 y101 y102 y103 y104 y105 y106 y107 y108 y109 y110 y111 y112 y113 y114 y115 y116 y117 y118 y119 y120 y121 y122 y123 y124 y125 y126 y127 y128 y129 y130 y131 y132 y133 y134 y135 y136 y137 y138 y139 y140 y141 y142 y143 y144 y145 y146 y147 y148 : Value) (ds : List Deferred) : Act := { tmps := #[y0, y1, y2, y3, y4, y5, y6, y7, y8, y9, y10, y11, y12, y13, y14, y15, y16, y17, y18, y19, y20, y21, y22, y23, y24, y25, y26, y27, y28, y29, y30, y31, y32, y33, y34, y35, y36, y37, y38, y39, y40, y41, y42, y43, y44, y45, y46, y47, y48, y49, y50, y51, y52, y53, y54, y55, y56, y57, y58, y59, y60, y61, y62, y63, y64, y65, y66, y67, y68, y69, y70, y71, y72, y73, y74, y75, y76, y77, y78, y79, y80, y81, y82, y83, y84, y85, y86, y87, y88, y89, y90, y91, y92, y93, y94, y95, y96, y97, y98, y99, y100, y101, y102, y103, y104, y105, y106, y107, y108, y109, y110, y111, y112, y113, y114, y115, y116, y117, y118, y119, y120, y121, y122, y123, y124, y125, y126, y127, y128, y129, y130, y131, y132, y133, y134, y135, y136, y137, y138, y139, y140, y141, y142, y143, y144, y145, y146, y147, y148], defers := ds }

/-- The count's block; nothing else of what there was has turned. -/
def IK (WB : World) (kb k : Nat) (W : World) : Prop := Fr (fun j => j = kb) WB W ∧ Boxed W kb 3 (.int .i64 (k : Int))
theorem IK.two {WB W W' : World} {kb k : Nat} (h : IK WB kb k W) (hk : kb < WB.heap.size) (hf : Fr (Two WB.heap.size) W W') : IK WB kb k W' :=
  ⟨h.1.trans hf fun j hj e => by rcases e with h | h <;> omega, hf.heap h.2 fun e => by rcases e with h | h <;> omega⟩

theorem rowPost_blockF {id : Nat} {D : Nat} {I : World → Prop} {W : World} {e : Exit} {a : Act} {w : World} (h : rowPost D I (fun _ _ => False) W e a w) : Exit.inBlock id (rowPost D I (fun _ _ => False) W) e a w := by
  cases e with
  | normal => exact h
  | ret => exact h.2.elim
  | exit id => exact h.2.elim
  | goto t => exact h.2.elim
  | panic c => exact h
  | outgrown => exact h

/-- TriePlays: the loop over the pairs, one round of it. -/
noncomputable def f3l : Code := sqS (sqS (sqS (sqS (sqS (sqS (sqS (sqS (sqS (sqS (bodyOf Try.f3))))))))))
noncomputable def lp3 : Code := lpB (bkB (sqS (sqF f3l)))
noncomputable def u3 : Code := bkB (sqF (sqS lp3))
noncomputable def rgA : Code := bkB (sqS (sqF (sqS u3)))
noncomputable def rbA : Code := bkB (rfB rgA)
noncomputable def rgB : Code := bkB (sqS (sqF (sqS (sqS (sqS u3)))))
noncomputable def rbB : Code := bkB (rfB rgB)
noncomputable def rgC : Code := bkB (sqS (sqF (sqS (sqS f3l))))
noncomputable def rbC : Code := bkB (rfB rgC)

/-- A round's end: the count has been stored. -/
theorem ik_end {WB W2 W3 : World} {kb k m : Nat} (hk : kb < WB.heap.size) (hI : IK WB kb k W2) (h3 : W3 = (W2.drewN m).setCell ⟨kb, 0, none⟩ (.int .i64 ((k : Int) + 1))) : (∀ j, Two WB.heap.size j → W3.heap[j]? = W2.heap[j]?) ∧ IK WB kb (k + 1) W3 := by
  have hF : Fr (fun j => j = kb) W2 W3 := by
    rw [h3]
    exact ((Fr.refl (fun j => j = kb) W2).drewN m).setCell (p := ⟨kb, 0, none⟩) (.inl rfl) _
  have hB : Boxed (W2.drewN m) kb 3 (.int .i64 (k : Int)) := hI.2
  refine ⟨fun j hj => ?_, hI.1.trans hF fun _ _ e => e, ?_⟩
  · rcases Nat.lt_or_ge j W2.heap.size with h | h
    · exact hF.block j h (fun e => by rcases hj with h | h <;> omega)
    · have h1 : W3.heap.size = W2.heap.size := by
        rw [h3]
        have : ((W2.drewN m).setCell ⟨kb, 0, none⟩ (.int .i64 ((k : Int) + 1))).heap.size = (W2.drewN m).heap.size := by simp [World.setCell]
        exact this
      rw [Array.getElem?_eq_none (by omega), Array.getElem?_eq_none (by omega)]
  · rw [show ((k + 1 : Nat) : Int) = (k : Int) + 1 by omega, h3]
    exact hB.set _
set_option maxHeartbeats 2000000 in
set_option maxRecDepth 100000 in
theorem rA0_i (l n : Nat) (WB W2 : World) (pb ib thb kb k : Nat) (vw : Value) (want : List RowT) (A : Option Addr) (cap : Nat) (x : RowT) (hib : Boxed WB ib 3 (.int .i64 0)) (hcv : WB.cell? ⟨pb, 1, none⟩ = some vw) (hne : ib ≠ kb ∧ pb ≠ kb) (hr : RefIs AnyZ WB vw want) (hx : want[k]? = some x) (hxl : x.1.length ≤ 35184372087808) (hwl : want.length ≤ 2550000000000)
    (hkb : kb < WB.heap.size) (hku : ∃ u, Boxed WB kb 3 u) (hnow : RowNow WB.heap.size (IK WB kb k) A cap x.1 W2) (y0 y1 y2 y4 y5 y6 y7 y12 y13 y14 y15 y16 y17 y18 y19 y20 y21 y22 y23 y24 y25 y26 y27 y28 y29 y30 y31 y32 y33 y34 y35 y36 y37 y38 y39 y40 y41 y42 y43 y44 y45 y46 y47 y48 y49 y50 y51 y52 y53 y54 y55 y56 y57 y58 y59 y60 y61 y62 y63 y64 y65 y66 y67 y68 y69 y70 y71 y72 y73 y74 y75 y76 y77 y78 y79 y80 y81 y82 y83 y84 y85 y86 y87 y88 y89 y90 y91 y92 y93 y94 y95 y96 y97 y98 y99 y100 y101 y102 y103 y104 y105 y106 y107 y108 y109 y110 y111 y112 y113 y114 y115 y116 y117 y118 y119 y120 y121 y122 y123 y124 y125 y126 y127 y128 y129 y130 y131 y132 y133 y134 y135 y136 y137 y138 y139 y140 y141 y142 y143 y144 y145 y146 y147 y148 : Value) (ds : List Deferred) :
    rbA.wpIn (Fence.wide.inRound l) n Try.prog (rowPost WB.heap.size (IK WB kb (k + 1)) (fun _ _ => False) W2) (fT y0 y1 y2 (.pointer (some ⟨pb, 0, none⟩)) y4 y5 y6 y7 (.pointer (some ⟨ib, 0, none⟩)) (.pointer (some ⟨kb, 0, none⟩)) (.slice A x.1.length cap) (.int .i64 x.2) y12 y13 y14 y15 y16 y17 y18 y19 y20 y21 y22 y23 y24 y25 y26 y27 y28 y29 y30 y31 y32 y33 y34 y35 y36 y37 y38 y39 y40 y41 y42 y43 y44 y45 y46 y47 y48 y49 y50 y51 y52 y53 y54 y55 y56 y57 y58 y59 y60 y61 y62 y63 y64 y65 y66 y67 y68 y69 y70 y71 y72 y73 y74 y75 y76 y77 y78 y79 y80 y81 y82 y83 y84 y85 y86 y87 y88 y89 y90 y91 y92 y93 y94 y95 y96 y97 y98 y99 y100 y101 y102 y103 y104 y105 y106 y107 y108 y109 y110 y111 y112 y113 y114 y115 y116 y117 y118 y119 y120 y121 y122 y123 y124 y125 y126 y127 y128 y129 y130 y131 y132 y133 y134 y135 y136 y137 y138 y139 y140 y141 y142 y143 y144 y145 y146 y147 y148 ds) W2 := by
  obtain ⟨⟨W0, hI0, hF02, hsz, hfr, hown⟩, hrd, hn0, hcap⟩ := hnow
  have hI2 := hI0.two hkb hF02
  have hF := hI2.1
  have cib := (show Boxed W2 ib 3 (.int .i64 0) from hF.heap hib (fun e => hne.1 e)).cell
  have cpb := hF.cell hcv (fun e => hne.2 e)
  have hr2 : RefIs AnyZ W2 vw want := hr.frame hF fun j c t f e hj ht _ => by
    subst e
    obtain ⟨u, hu⟩ := hku
    rw [hu] at hj
    injection hj with hj; injection hj with _ hj
    rcases ht with h | h <;> (rw [← hj] at h; cases h)
  have ckb := hI2.2.cell
  have fkb := hI2.2.frozen
  have his := Lib.hid fun m => is_i (W2.drewN m) AnyZ A cap vw want k x (hr2.drewN m) hx hxl hrd.rd
  obtain ⟨Aw, cw, rfl⟩ := hr2.form
  have hkl := idx_lt hx
  have hend := Lib.hid (fun m W3 => ik_end (m := m) (W3 := W3) hkb hI2)
  clear hI0 hF02 hfr hown hrd hn0 hcap hI2 hF hr2 hr hx hku hib hcv
  have hk0 : (0 : Int) ≤ (k : Int) := by omega
  unfold rbA rgA u3 lp3 f3l fT
  dsimp only [Try.f3, bodyOf, sqF, sqS, cdT, cdE, bkB, lpB, rfB]
  gi_wp2
  refine wpIn_region_quiet_round (F := Fence.wide) rfl (by kernel_rfl) (by kernel_rfl) (by kernel_rfl) ?_
  repeat (refine wpQuietIn_step (fun _ _ _ _ => trivial) (fun K hK => ?_); go_simp; first | (refine hK _ ?_; clear hK K) | (apply Exists.intro; refine ⟨fun _ => ?_, hK _ ?_⟩; exact ⟨(by intro h; cases h), CallsIn.quiet_of (callsIn_wide.2 (his.out _))⟩; clear hK K))
  refine wpQuietIn_nil ?_
  intro _ hw'
  obtain ⟨m, rfl⟩ := hw'
  gi_wp2
  exact hend.out m _ rfl

set_option maxHeartbeats 2000000 in
set_option maxRecDepth 100000 in
theorem rB0_i (l n : Nat) (WB W2 : World) (pb ib thb kb k : Nat) (vw : Value) (want : List RowT) (A : Option Addr) (cap : Nat) (x : RowT) (hib : Boxed WB ib 3 (.int .i64 0)) (hcv : WB.cell? ⟨pb, 1, none⟩ = some vw) (hne : ib ≠ kb ∧ pb ≠ kb) (hr : RefIs AnyZ WB vw want) (hx : want[k]? = some x) (hxl : x.1.length ≤ 35184372087808) (hwl : want.length ≤ 2550000000000)
    (hkb : kb < WB.heap.size) (hku : ∃ u, Boxed WB kb 3 u) (hnow : RowNow WB.heap.size (IK WB kb k) A cap x.1 W2) (y0 y1 y2 y4 y5 y6 y7 y9 y10 y11 y15 y16 y17 y18 y19 y20 y21 y22 y23 y24 y25 y26 y27 y28 y29 y30 y31 y32 y33 y34 y35 y36 y37 y38 y39 y40 y41 y42 y43 y44 y45 y46 y47 y48 y49 y50 y51 y52 y53 y54 y55 y56 y57 y58 y59 y60 y61 y62 y63 y64 y65 y66 y67 y68 y69 y70 y71 y72 y73 y74 y75 y76 y77 y78 y79 y80 y81 y82 y83 y84 y85 y86 y87 y88 y89 y90 y91 y92 y93 y94 y95 y96 y97 y98 y99 y100 y101 y102 y103 y104 y105 y106 y107 y108 y109 y110 y111 y112 y113 y114 y115 y116 y117 y118 y119 y120 y121 y122 y123 y124 y125 y126 y127 y128 y129 y130 y131 y132 y133 y134 y135 y136 y137 y138 y139 y140 y141 y142 y143 y144 y145 y146 y147 y148 : Value) (ds : List Deferred) :
    rbB.wpIn (Fence.wide.inRound l) n Try.prog (rowPost WB.heap.size (IK WB kb (k + 1)) (fun _ _ => False) W2) (fT y0 y1 y2 (.pointer (some ⟨pb, 0, none⟩)) y4 y5 y6 y7 (.pointer (some ⟨ib, 0, none⟩)) y9 y10 y11 (.pointer (some ⟨kb, 0, none⟩)) (.slice A x.1.length cap) (.int .i64 x.2) y15 y16 y17 y18 y19 y20 y21 y22 y23 y24 y25 y26 y27 y28 y29 y30 y31 y32 y33 y34 y35 y36 y37 y38 y39 y40 y41 y42 y43 y44 y45 y46 y47 y48 y49 y50 y51 y52 y53 y54 y55 y56 y57 y58 y59 y60 y61 y62 y63 y64 y65 y66 y67 y68 y69 y70 y71 y72 y73 y74 y75 y76 y77 y78 y79 y80 y81 y82 y83 y84 y85 y86 y87 y88 y89 y90 y91 y92 y93 y94 y95 y96 y97 y98 y99 y100 y101 y102 y103 y104 y105 y106 y107 y108 y109 y110 y111 y112 y113 y114 y115 y116 y117 y118 y119 y120 y121 y122 y123 y124 y125 y126 y127 y128 y129 y130 y131 y132 y133 y134 y135 y136 y137 y138 y139 y140 y141 y142 y143 y144 y145 y146 y147 y148 ds) W2 := by
  obtain ⟨⟨W0, hI0, hF02, hsz, hfr, hown⟩, hrd, hn0, hcap⟩ := hnow
  have hI2 := hI0.two hkb hF02
  have hF := hI2.1
  have cib := (show Boxed W2 ib 3 (.int .i64 0) from hF.heap hib (fun e => hne.1 e)).cell
  have cpb := hF.cell hcv (fun e => hne.2 e)
  have hr2 : RefIs AnyZ W2 vw want := hr.frame hF fun j c t f e hj ht _ => by
    subst e
    obtain ⟨u, hu⟩ := hku
    rw [hu] at hj
    injection hj with hj; injection hj with _ hj
    rcases ht with h | h <;> (rw [← hj] at h; cases h)
  have ckb := hI2.2.cell
  have fkb := hI2.2.frozen
  have his := Lib.hid fun m => is_i (W2.drewN m) AnyZ A cap vw want k x (hr2.drewN m) hx hxl hrd.rd
  obtain ⟨Aw, cw, rfl⟩ := hr2.form
  have hkl := idx_lt hx
  have hend := Lib.hid (fun m W3 => ik_end (m := m) (W3 := W3) hkb hI2)
  clear hI0 hF02 hfr hown hrd hn0 hcap hI2 hF hr2 hr hx hku hib hcv
  have hk0 : (0 : Int) ≤ (k : Int) := by omega
  unfold rbB rgB u3 lp3 f3l fT
  dsimp only [Try.f3, bodyOf, sqF, sqS, cdT, cdE, bkB, lpB, rfB]
  gi_wp2
  refine wpIn_region_quiet_round (F := Fence.wide) rfl (by kernel_rfl) (by kernel_rfl) (by kernel_rfl) ?_
  repeat (refine wpQuietIn_step (fun _ _ _ _ => trivial) (fun K hK => ?_); go_simp; first | (refine hK _ ?_; clear hK K) | (apply Exists.intro; refine ⟨fun _ => ?_, hK _ ?_⟩; exact ⟨(by intro h; cases h), CallsIn.quiet_of (callsIn_wide.2 (his.out _))⟩; clear hK K))
  refine wpQuietIn_nil ?_
  intro _ hw'
  obtain ⟨m, rfl⟩ := hw'
  gi_wp2
  exact hend.out m _ rfl

set_option maxHeartbeats 2000000 in
set_option maxRecDepth 100000 in
theorem rA1_i (l n : Nat) (WB W2 : World) (pb ib thb kb k : Nat) (vw : Value) (want : List RowT) (A : Option Addr) (cap : Nat) (x : RowT) (hib : Boxed WB ib 3 (.int .i64 1)) (hcv : WB.cell? ⟨pb, 3, none⟩ = some vw) (hne : ib ≠ kb ∧ pb ≠ kb) (hr : RefIs AnyZ WB vw want) (hx : want[k]? = some x) (hxl : x.1.length ≤ 35184372087808) (hwl : want.length ≤ 2550000000000)
    (hkb : kb < WB.heap.size) (hku : ∃ u, Boxed WB kb 3 u) (hnow : RowNow WB.heap.size (IK WB kb k) A cap x.1 W2) (y0 y1 y2 y4 y5 y6 y7 y12 y13 y14 y15 y16 y17 y18 y19 y20 y21 y22 y23 y24 y25 y26 y27 y28 y29 y30 y31 y32 y33 y34 y35 y36 y37 y38 y39 y40 y41 y42 y43 y44 y45 y46 y47 y48 y49 y50 y51 y52 y53 y54 y55 y56 y57 y58 y59 y60 y61 y62 y63 y64 y65 y66 y67 y68 y69 y70 y71 y72 y73 y74 y75 y76 y77 y78 y79 y80 y81 y82 y83 y84 y85 y86 y87 y88 y89 y90 y91 y92 y93 y94 y95 y96 y97 y98 y99 y100 y101 y102 y103 y104 y105 y106 y107 y108 y109 y110 y111 y112 y113 y114 y115 y116 y117 y118 y119 y120 y121 y122 y123 y124 y125 y126 y127 y128 y129 y130 y131 y132 y133 y134 y135 y136 y137 y138 y139 y140 y141 y142 y143 y144 y145 y146 y147 y148 : Value) (ds : List Deferred) :
    rbA.wpIn (Fence.wide.inRound l) n Try.prog (rowPost WB.heap.size (IK WB kb (k + 1)) (fun _ _ => False) W2) (fT y0 y1 y2 (.pointer (some ⟨pb, 0, none⟩)) y4 y5 y6 y7 (.pointer (some ⟨ib, 0, none⟩)) (.pointer (some ⟨kb, 0, none⟩)) (.slice A x.1.length cap) (.int .i64 x.2) y12 y13 y14 y15 y16 y17 y18 y19 y20 y21 y22 y23 y24 y25 y26 y27 y28 y29 y30 y31 y32 y33 y34 y35 y36 y37 y38 y39 y40 y41 y42 y43 y44 y45 y46 y47 y48 y49 y50 y51 y52 y53 y54 y55 y56 y57 y58 y59 y60 y61 y62 y63 y64 y65 y66 y67 y68 y69 y70 y71 y72 y73 y74 y75 y76 y77 y78 y79 y80 y81 y82 y83 y84 y85 y86 y87 y88 y89 y90 y91 y92 y93 y94 y95 y96 y97 y98 y99 y100 y101 y102 y103 y104 y105 y106 y107 y108 y109 y110 y111 y112 y113 y114 y115 y116 y117 y118 y119 y120 y121 y122 y123 y124 y125 y126 y127 y128 y129 y130 y131 y132 y133 y134 y135 y136 y137 y138 y139 y140 y141 y142 y143 y144 y145 y146 y147 y148 ds) W2 := by
  obtain ⟨⟨W0, hI0, hF02, hsz, hfr, hown⟩, hrd, hn0, hcap⟩ := hnow
  have hI2 := hI0.two hkb hF02
  have hF := hI2.1
  have cib := (show Boxed W2 ib 3 (.int .i64 1) from hF.heap hib (fun e => hne.1 e)).cell
  have cpb := hF.cell hcv (fun e => hne.2 e)
  have hr2 : RefIs AnyZ W2 vw want := hr.frame hF fun j c t f e hj ht _ => by
    subst e
    obtain ⟨u, hu⟩ := hku
    rw [hu] at hj
    injection hj with hj; injection hj with _ hj
    rcases ht with h | h <;> (rw [← hj] at h; cases h)
  have ckb := hI2.2.cell
  have fkb := hI2.2.frozen
  have his := Lib.hid fun m => is_i (W2.drewN m) AnyZ A cap vw want k x (hr2.drewN m) hx hxl hrd.rd
  obtain ⟨Aw, cw, rfl⟩ := hr2.form
  have hkl := idx_lt hx
  have hend := Lib.hid (fun m W3 => ik_end (m := m) (W3 := W3) hkb hI2)
  clear hI0 hF02 hfr hown hrd hn0 hcap hI2 hF hr2 hr hx hku hib hcv
  have hk0 : (0 : Int) ≤ (k : Int) := by omega
  unfold rbA rgA u3 lp3 f3l fT
  dsimp only [Try.f3, bodyOf, sqF, sqS, cdT, cdE, bkB, lpB, rfB]
  gi_wp2
  refine wpIn_region_quiet_round (F := Fence.wide) rfl (by kernel_rfl) (by kernel_rfl) (by kernel_rfl) ?_
  repeat (refine wpQuietIn_step (fun _ _ _ _ => trivial) (fun K hK => ?_); go_simp; first | (refine hK _ ?_; clear hK K) | (apply Exists.intro; refine ⟨fun _ => ?_, hK _ ?_⟩; exact ⟨(by intro h; cases h), CallsIn.quiet_of (callsIn_wide.2 (his.out _))⟩; clear hK K))
  refine wpQuietIn_nil ?_
  intro _ hw'
  obtain ⟨m, rfl⟩ := hw'
  gi_wp2
  exact hend.out m _ rfl

set_option maxHeartbeats 2000000 in
set_option maxRecDepth 100000 in
theorem rB1_i (l n : Nat) (WB W2 : World) (pb ib thb kb k : Nat) (vw : Value) (want : List RowT) (A : Option Addr) (cap : Nat) (x : RowT) (hib : Boxed WB ib 3 (.int .i64 1)) (hcv : WB.cell? ⟨pb, 3, none⟩ = some vw) (hne : ib ≠ kb ∧ pb ≠ kb) (hr : RefIs AnyZ WB vw want) (hx : want[k]? = some x) (hxl : x.1.length ≤ 35184372087808) (hwl : want.length ≤ 2550000000000)
    (hkb : kb < WB.heap.size) (hku : ∃ u, Boxed WB kb 3 u) (hnow : RowNow WB.heap.size (IK WB kb k) A cap x.1 W2) (y0 y1 y2 y4 y5 y6 y7 y9 y10 y11 y15 y16 y17 y18 y19 y20 y21 y22 y23 y24 y25 y26 y27 y28 y29 y30 y31 y32 y33 y34 y35 y36 y37 y38 y39 y40 y41 y42 y43 y44 y45 y46 y47 y48 y49 y50 y51 y52 y53 y54 y55 y56 y57 y58 y59 y60 y61 y62 y63 y64 y65 y66 y67 y68 y69 y70 y71 y72 y73 y74 y75 y76 y77 y78 y79 y80 y81 y82 y83 y84 y85 y86 y87 y88 y89 y90 y91 y92 y93 y94 y95 y96 y97 y98 y99 y100 y101 y102 y103 y104 y105 y106 y107 y108 y109 y110 y111 y112 y113 y114 y115 y116 y117 y118 y119 y120 y121 y122 y123 y124 y125 y126 y127 y128 y129 y130 y131 y132 y133 y134 y135 y136 y137 y138 y139 y140 y141 y142 y143 y144 y145 y146 y147 y148 : Value) (ds : List Deferred) :
    rbB.wpIn (Fence.wide.inRound l) n Try.prog (rowPost WB.heap.size (IK WB kb (k + 1)) (fun _ _ => False) W2) (fT y0 y1 y2 (.pointer (some ⟨pb, 0, none⟩)) y4 y5 y6 y7 (.pointer (some ⟨ib, 0, none⟩)) y9 y10 y11 (.pointer (some ⟨kb, 0, none⟩)) (.slice A x.1.length cap) (.int .i64 x.2) y15 y16 y17 y18 y19 y20 y21 y22 y23 y24 y25 y26 y27 y28 y29 y30 y31 y32 y33 y34 y35 y36 y37 y38 y39 y40 y41 y42 y43 y44 y45 y46 y47 y48 y49 y50 y51 y52 y53 y54 y55 y56 y57 y58 y59 y60 y61 y62 y63 y64 y65 y66 y67 y68 y69 y70 y71 y72 y73 y74 y75 y76 y77 y78 y79 y80 y81 y82 y83 y84 y85 y86 y87 y88 y89 y90 y91 y92 y93 y94 y95 y96 y97 y98 y99 y100 y101 y102 y103 y104 y105 y106 y107 y108 y109 y110 y111 y112 y113 y114 y115 y116 y117 y118 y119 y120 y121 y122 y123 y124 y125 y126 y127 y128 y129 y130 y131 y132 y133 y134 y135 y136 y137 y138 y139 y140 y141 y142 y143 y144 y145 y146 y147 y148 ds) W2 := by
  obtain ⟨⟨W0, hI0, hF02, hsz, hfr, hown⟩, hrd, hn0, hcap⟩ := hnow
  have hI2 := hI0.two hkb hF02
  have hF := hI2.1
  have cib := (show Boxed W2 ib 3 (.int .i64 1) from hF.heap hib (fun e => hne.1 e)).cell
  have cpb := hF.cell hcv (fun e => hne.2 e)
  have hr2 : RefIs AnyZ W2 vw want := hr.frame hF fun j c t f e hj ht _ => by
    subst e
    obtain ⟨u, hu⟩ := hku
    rw [hu] at hj
    injection hj with hj; injection hj with _ hj
    rcases ht with h | h <;> (rw [← hj] at h; cases h)
  have ckb := hI2.2.cell
  have fkb := hI2.2.frozen
  have his := Lib.hid fun m => is_i (W2.drewN m) AnyZ A cap vw want k x (hr2.drewN m) hx hxl hrd.rd
  obtain ⟨Aw, cw, rfl⟩ := hr2.form
  have hkl := idx_lt hx
  have hend := Lib.hid (fun m W3 => ik_end (m := m) (W3 := W3) hkb hI2)
  clear hI0 hF02 hfr hown hrd hn0 hcap hI2 hF hr2 hr hx hku hib hcv
  have hk0 : (0 : Int) ≤ (k : Int) := by omega
  unfold rbB rgB u3 lp3 f3l fT
  dsimp only [Try.f3, bodyOf, sqF, sqS, cdT, cdE, bkB, lpB, rfB]
  gi_wp2
  refine wpIn_region_quiet_round (F := Fence.wide) rfl (by kernel_rfl) (by kernel_rfl) (by kernel_rfl) ?_
  repeat (refine wpQuietIn_step (fun _ _ _ _ => trivial) (fun K hK => ?_); go_simp; first | (refine hK _ ?_; clear hK K) | (apply Exists.intro; refine ⟨fun _ => ?_, hK _ ?_⟩; exact ⟨(by intro h; cases h), CallsIn.quiet_of (callsIn_wide.2 (his.out _))⟩; clear hK K))
  refine wpQuietIn_nil ?_
  intro _ hw'
  obtain ⟨m, rfl⟩ := hw'
  gi_wp2
  exact hend.out m _ rfl

set_option maxHeartbeats 2000000 in
set_option maxRecDepth 100000 in
theorem rC_i (l n : Nat) (WB W2 : World) (pb ib thb kb k : Nat) (vw : Value) (want : List RowT) (A : Option Addr) (cap : Nat) (x : RowT) (hth : Boxed WB thb 25 vw) (hne : thb ≠ kb) (hr : RefIs AnyZ WB vw want) (hx : want[k]? = some x) (hxl : x.1.length ≤ 35184372087808) (hwl : want.length ≤ 2550000000000)
    (hkb : kb < WB.heap.size) (hku : ∃ u, Boxed WB kb 3 u) (hnow : RowNow WB.heap.size (IK WB kb k) A cap x.1 W2) (y0 y1 y2 y3 y4 y6 y7 y8 y9 y10 y11 y12 y13 y14 y18 y19 y20 y21 y22 y23 y24 y25 y26 y27 y28 y29 y30 y31 y32 y33 y34 y35 y36 y37 y38 y39 y40 y41 y42 y43 y44 y45 y46 y47 y48 y49 y50 y51 y52 y53 y54 y55 y56 y57 y58 y59 y60 y61 y62 y63 y64 y65 y66 y67 y68 y69 y70 y71 y72 y73 y74 y75 y76 y77 y78 y79 y80 y81 y82 y83 y84 y85 y86 y87 y88 y89 y90 y91 y92 y93 y94 y95 y96 y97 y98 y99 y100 y101 y102 y103 y104 y105 y106 y107 y108 y109 y110 y111 y112 y113 y114 y115 y116 y117 y118 y119 y120 y121 y122 y123 y124 y125 y126 y127 y128 y129 y130 y131 y132 y133 y134 y135 y136 y137 y138 y139 y140 y141 y142 y143 y144 y145 y146 y147 y148 : Value) (ds : List Deferred) :
    rbC.wpIn (Fence.wide.inRound l) n Try.prog (rowPost WB.heap.size (IK WB kb (k + 1)) (fun _ _ => False) W2) (fT y0 y1 y2 y3 y4 (.pointer (some ⟨thb, 0, none⟩)) y6 y7 y8 y9 y10 y11 y12 y13 y14 (.pointer (some ⟨kb, 0, none⟩)) (.slice A x.1.length cap) (.int .i64 x.2) y18 y19 y20 y21 y22 y23 y24 y25 y26 y27 y28 y29 y30 y31 y32 y33 y34 y35 y36 y37 y38 y39 y40 y41 y42 y43 y44 y45 y46 y47 y48 y49 y50 y51 y52 y53 y54 y55 y56 y57 y58 y59 y60 y61 y62 y63 y64 y65 y66 y67 y68 y69 y70 y71 y72 y73 y74 y75 y76 y77 y78 y79 y80 y81 y82 y83 y84 y85 y86 y87 y88 y89 y90 y91 y92 y93 y94 y95 y96 y97 y98 y99 y100 y101 y102 y103 y104 y105 y106 y107 y108 y109 y110 y111 y112 y113 y114 y115 y116 y117 y118 y119 y120 y121 y122 y123 y124 y125 y126 y127 y128 y129 y130 y131 y132 y133 y134 y135 y136 y137 y138 y139 y140 y141 y142 y143 y144 y145 y146 y147 y148 ds) W2 := by
  obtain ⟨⟨W0, hI0, hF02, hsz, hfr, hown⟩, hrd, hn0, hcap⟩ := hnow
  have hI2 := hI0.two hkb hF02
  have hF := hI2.1
  have cth := (show Boxed W2 thb 25 vw from hF.heap hth (fun e => hne e)).cell
  have hr2 : RefIs AnyZ W2 vw want := hr.frame hF fun j c t f e hj ht _ => by
    subst e
    obtain ⟨u, hu⟩ := hku
    rw [hu] at hj
    injection hj with hj; injection hj with _ hj
    rcases ht with h | h <;> (rw [← hj] at h; cases h)
  have ckb := hI2.2.cell
  have fkb := hI2.2.frozen
  have his := Lib.hid fun m => is_i (W2.drewN m) AnyZ A cap vw want k x (hr2.drewN m) hx hxl hrd.rd
  obtain ⟨Aw, cw, rfl⟩ := hr2.form
  have hkl := idx_lt hx
  have hend := Lib.hid (fun m W3 => ik_end (m := m) (W3 := W3) hkb hI2)
  clear hI0 hF02 hfr hown hrd hn0 hcap hI2 hF hr2 hr hx hku hth
  have hk0 : (0 : Int) ≤ (k : Int) := by omega
  unfold rbC rgC f3l fT
  dsimp only [Try.f3, bodyOf, sqF, sqS, cdT, cdE, bkB, lpB, rfB]
  gi_wp2_with fail
  refine callR (his.out 0) ?_
  rintro e _ ⟨rfl, m, rfl⟩
  gi_wp2
  exact hend.out m _ rfl
end Go.Proofs.Ytioflglfnalcaaa

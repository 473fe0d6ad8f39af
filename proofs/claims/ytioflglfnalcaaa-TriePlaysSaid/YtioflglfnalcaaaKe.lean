/- TrieKnown: the walk of the third trie, and the end. -/
import Derived.Test.YtioflglfnalcaaaKd
import Derived.Test.YtioflglfnalcaaaWk
namespace Go.Proofs.Ytioflglfnalcaaa
open Go.RowKit

attribute [local go_sem] Oper.semAt_some

theorem put_other {W : World} {l k : Nat} {o o' : Obj} (h : W.heap[k]? = some o) (hk : k ≠ l) : (W.putObj l o').heap[k]? = some o := (World.putObj_heap_other hk).trans h
theorem results_cell4 {fn : Func} (hfn : fn.results = #[.cell 0 4]) {tmps : Array Value} {b0 : Nat} {W : World} (ht : tmps.getD 0 undef = .pointer (some ⟨b0, 0, none⟩)) (hW : W.cell? ⟨b0, 0, none⟩ = some (.bool true)) : (results fn tmps).run Try.prog W = .ok (.bool true) W := by
  have h4 := Try.underlying4
  have ht' : tmps[0]?.getD undef = .pointer (some ⟨b0, 0, none⟩) := by rw [← Array.getD_eq_getD_getElem?]; exact ht
  simp [results, hfn, ht', hW, go_sem]
theorem leave4 (n : Nat) (fn : Func) (tmps : Array Value) (w W : World) (b0 d1 d2 d3 d4 : Nat) (hfn : fn.results = #[.cell 0 4]) (ht : tmps.getD 0 undef = .pointer (some ⟨b0, 0, none⟩)) (hW : Boxed W b0 4 (.bool true)) (hd : b0 < d1 ∧ d1 < d2 ∧ d2 < d3 ∧ d3 < d4)
    (h1 : W.heap[d1]? = some (.deferred (some []))) (h2 : W.heap[d2]? = some (.deferred (some []))) (h3 : W.heap[d3]? = some (.deferred (some []))) (h4 : W.heap[d4]? = some (.deferred (some []))) (hb : Below w.heap.size w W) (hw : w.heap.size ≤ b0) :
    LeavesInM Fence.wide n Try.prog fn tmps (WorksP w) [{ target := .collected d4, args := #[] }, { target := .collected d3, args := #[] }, { target := .collected d2, args := #[] }, { target := .collected d1, args := #[] }] .returning W := by
  obtain ⟨e1, e2, e3, e4⟩ := hd
  refine ⟨by simp, .inl ⟨_, _, rfl, run_takeDeferred h4, ?_⟩⟩
  have g3 := put_other (o' := .deferred none) h3 (l := d4) (by omega)
  refine ⟨by simp, .inl ⟨_, _, rfl, run_takeDeferred g3, ?_⟩⟩
  have g2 := put_other (o' := .deferred none) (put_other (o' := .deferred none) h2 (l := d4) (by omega)) (l := d3) (by omega)
  refine ⟨by simp, .inl ⟨_, _, rfl, run_takeDeferred g2, ?_⟩⟩
  have g1 := put_other (o' := .deferred none) (put_other (o' := .deferred none) (put_other (o' := .deferred none) h1 (l := d4) (by omega)) (l := d3) (by omega)) (l := d2) (by omega)
  refine ⟨by simp, .inl ⟨_, _, rfl, run_takeDeferred g1, ?_⟩⟩
  have gb : Boxed _ b0 4 (.bool true) := put_other (o' := .deferred none) (put_other (o' := .deferred none) (put_other (o' := .deferred none) (put_other (o' := .deferred none) hW (l := d4) (by omega)) (l := d3) (by omega)) (l := d2) (by omega)) (l := d1) (by omega)
  refine ⟨_, results_cell4 hfn ht gb.cell, rfl, ?_⟩
  have hs := hb.size
  exact (((hb.trans (belowK_b (w := w) (Nat.le_refl _) W d4 _ _ (by omega) h4 rfl rfl)).trans (belowK_b (w := w) (Nat.le_refl _) _ d3 _ _ (by omega) g3 rfl rfl)).trans (belowK_b (w := w) (Nat.le_refl _) _ d2 _ _ (by omega) g2 rfl rfl)).trans (belowK_b (w := w) (Nat.le_refl _) _ d1 _ _ (by omega) g1 rfl rfl)

noncomputable def tl : Nat → Code → Code
  | 0, c => c
  | n + 1, .seq _ c => tl n c
  | _ + 1, c => c
noncomputable def rest30 : Code := match Try.f7.body with
  | some c => tl 17 c
  | none => .skip

theorem callX {P : Program} {n : Nat} {f : FuncId} {args : Array Value} {w : World} {R R' : Ending → World → Prop} (h : Calls P f args w R) (hk : ∀ e w', R e w' → R' e w') :
    Fence.wide.fn f ∧ (Fence.wide.depth.isSome = true → 1 ≤ n) ∧ CallsIn Fence.wide (n - 1) P f args w R' := ⟨trivial, (by intro h; cases h), CallsIn.mono (callsIn_wide.2 h) hk⟩

def fr30 (b0 s0 kb d1 d2 d3 d4 : Nat) (y1 y4 y5 y6 y7 y9 y10 y12 y14 y15 y16 y17 y18 y19 y20 y21 y22 y23 y24 y25 y26 y27 y28 y29 y30 y31 y32 y33 y34 y35 y36 y37 y38 y39 y40 y41 y42 y43 y44 y45 y46 y47 y48 y49 y50 y51 y52 y53 y54 y55 y56 y57 y58 y59 y60 y61 y62 y63 y64 y65 y66 y67 y68 y69 y70 y71 y72 y73 y74 y75 y76 y77 y78 y79 y80 y81 y82 y83 y84 y85 y86 y87 y88 y89 y90 y91 y92 y93 y94 y95 y96 y97 y98 y99 y100 y101 y102 y103 y104 y105 y106 y107 y108 y109 y110 y111 y112 y113 y114 y115 y116 y117 y118 y119 y120 y121 y122 y123 y124 y125 y126 y127 y128 y129 y130 y131 y132 y133 y134 y135 y136 y137 y138 y139 y140 y141 y142 y143 y144 y145 y146 y147 y148 y149 y150 y151 y152 y153 y154 y155 y156 y157 y158 y159 y160 y161 y162 y163 y164 y165 y166 y167 y168 y169 y170 y171 y172 y173 y174 y175 y176 y177 y178 y179 y180 y181 y182 y183 y184 y185 y186 y187 y188 y189 y190 y191 y192 y193 y194 y195 y196 y197 y198 y199 : Value) : Act :=
  { tmps := #[.pointer (some ⟨b0, 0, none⟩), y1, .bool true, .bool true, y4, y5, y6, y7, .bool true, y9, y10, .pointer (some ⟨s0 + 16, 0, none⟩), y12, .pointer (some ⟨kb, 0, none⟩), y14, y15, y16, y17, y18, y19, y20, y21, y22, y23, y24, y25, y26, y27, y28, y29, y30, y31, y32, y33, y34, y35, y36, y37, y38, y39, y40, y41, y42, y43, y44, y45, y46, y47, y48, y49, y50, y51, y52, y53, y54, y55, y56, y57, y58, y59, y60, y61, y62, y63, y64, y65, y66, y67, y68, y69, y70, y71, y72, y73, y74, y75, y76, y77, y78, y79, y80, y81, y82, y83, y84, y85, y86, y87, y88, y89, y90, y91, y92, y93, y94, y95, y96, y97, y98, y99, y100, y101, y102, y103, y104, y105, y106, y107, y108, y109, y110, y111, y112, y113, y114, y115, y116, y117, y118, y119, y120, y121, y122, y123, y124, y125, y126, y127, y128, y129, y130, y131, y132, y133, y134, y135, y136, y137, y138, y139, y140, y141, y142, y143, y144, y145, y146, y147, y148, y149, y150, y151, y152, y153, y154, y155, y156, y157, y158, y159, y160, y161, y162, y163, y164, y165, y166, y167, y168, y169, y170, y171, y172, y173, y174, y175, y176, y177, y178, y179, y180, y181, y182, y183, y184, y185, y186, y187, y188, y189, y190, y191, y192, y193, y194, y195, y196, y197, y198, y199, undef, undef, undef, undef, undef, undef, undef, undef, undef, undef, undef, undef, undef, undef, undef, undef, undef, undef, undef, undef, undef, undef, undef, undef, undef, undef, undef, undef, undef, undef, undef, undef, undef, undef, undef, undef, undef, undef, undef, undef, undef, undef, undef, undef, undef, undef, undef, undef, undef, undef, undef, undef, undef, undef, undef, undef, undef, undef, undef, undef, undef, undef, undef, undef, undef, undef, undef, undef, undef, undef], defers := [{ target := .collected d4, args := #[] }, { target := .collected d3, args := #[] }, { target := .collected d2, args := #[] }, { target := .collected d1, args := #[] }] }

def longR : List (List Int) := [[97, 98, 99, 100, 101], [97, 98, 99, 100], [97, 98, 99], [97, 98], [97]]
def longS : Array Value := #[.string ⟨#[97, 98, 99, 100, 101]⟩, .string ⟨#[97, 98, 99, 100]⟩, .string ⟨#[97, 98, 99]⟩, .string ⟨#[97, 98]⟩, .string ⟨#[97]⟩]
def C1 : List Int → Option Value := fun q => if q = [97, 98, 99] then none else putsF longR 5 q
def C2 : List Int → Option Value := fun q => if q = [97] then none else C1 q
def C3 : List Int → Option Value := fun q => if q = [97, 98, 99, 100, 101] then none else C2 q
/-- What holds while the third trie is filled. -/
def XRel (w46 : World) (x lb k : Nat) (wr : World) : Prop := ∃ T, St Li w46 x (putsF longR k) (longR.take k).reverse 5 k T wr ∧ wr.heap[lb]? = some (.cells longS 9 (0, 0)) ∧ ¬ T.own lb

set_option maxHeartbeats 4000000 in
set_option maxRecDepth 100000 in
theorem known3 (n : Nat) (w w46 : World) (b0 s0 kb d1 d2 d3 d4 : Nat) (hb : Below w.heap.size w w46) (hbw : b0 = w.heap.size) (hd : b0 < d1 ∧ d1 < d2 ∧ d2 < d3 ∧ d3 < d4) (hbx : Boxed w46 b0 4 (.bool false)) (hU : U17 s0 w46) (hk : Boxed w46 kb 3 (.int .i64 7))
    (h1 : w46.heap[d1]? = some (.deferred (some []))) (h2 : w46.heap[d2]? = some (.deferred (some []))) (h3 : w46.heap[d3]? = some (.deferred (some []))) (h4 : w46.heap[d4]? = some (.deferred (some [])))
    (y1 y4 y5 y6 y7 y9 y10 y12 y14 y15 y16 y17 y18 y19 y20 y21 y22 y23 y24 y25 y26 y27 y28 y29 y30 y31 y32 y33 y34 y35 y36 y37 y38 y39 y40 y41 y42 y43 y44 y45 y46 y47 y48 y49 y50 y51 y52 y53 y54 y55 y56 y57 y58 y59 y60 y61 y62 y63 y64 y65 y66 y67 y68 y69 y70 y71 y72 y73 y74 y75 y76 y77 y78 y79 y80 y81 y82 y83 y84 y85 y86 y87 y88 y89 y90 y91 y92 y93 y94 y95 y96 y97 y98 y99 y100 y101 y102 y103 y104 y105 y106 y107 y108 y109 y110 y111 y112 y113 y114 y115 y116 y117 y118 y119 y120 y121 y122 y123 y124 y125 y126 y127 y128 y129 y130 y131 y132 y133 y134 y135 y136 y137 y138 y139 y140 y141 y142 y143 y144 y145 y146 y147 y148 y149 y150 y151 y152 y153 y154 y155 y156 y157 y158 y159 y160 y161 y162 y163 y164 y165 y166 y167 y168 y169 y170 y171 y172 y173 y174 y175 y176 y177 y178 y179 y180 y181 y182 y183 y184 y185 y186 y187 y188 y189 y190 y191 y192 y193 y194 y195 y196 y197 y198 y199 : Value) : rest30.wpIn Fence.wide n Try.prog (bodyPostM Fence.wide n Try.prog Try.f7 (WorksP w)) (fr30 b0 s0 kb d1 d2 d3 d4 y1 y4 y5 y6 y7 y9 y10 y12 y14 y15 y16 y17 y18 y19 y20 y21 y22 y23 y24 y25 y26 y27 y28 y29 y30 y31 y32 y33 y34 y35 y36 y37 y38 y39 y40 y41 y42 y43 y44 y45 y46 y47 y48 y49 y50 y51 y52 y53 y54 y55 y56 y57 y58 y59 y60 y61 y62 y63 y64 y65 y66 y67 y68 y69 y70 y71 y72 y73 y74 y75 y76 y77 y78 y79 y80 y81 y82 y83 y84 y85 y86 y87 y88 y89 y90 y91 y92 y93 y94 y95 y96 y97 y98 y99 y100 y101 y102 y103 y104 y105 y106 y107 y108 y109 y110 y111 y112 y113 y114 y115 y116 y117 y118 y119 y120 y121 y122 y123 y124 y125 y126 y127 y128 y129 y130 y131 y132 y133 y134 y135 y136 y137 y138 y139 y140 y141 y142 y143 y144 y145 y146 y147 y148 y149 y150 y151 y152 y153 y154 y155 y156 y157 y158 y159 y160 y161 y162 y163 y164 y165 y166 y167 y168 y169 y170 y171 y172 y173 y174 y175 y176 y177 y178 y179 y180 y181 y182 y183 y184 y185 y186 y187 y188 y189 y190 y191 y192 y193 y194 y195 y196 y197 y198 y199) w46 := by
  have Hb := Lib.hid hb
  have Hbx := Lib.hid hbx
  have HU := Lib.hid hU
  have Hk := Lib.hid hk
  have H1 := Lib.hid h1
  have H2 := Lib.hid h2
  have H3 := Lib.hid h3
  have H4 := Lib.hid h4
  replace hbw := Lib.hid hbw
  replace hd := Lib.hid hd
  clear hb hbx hU hk h1 h2 h3 h4
  unfold rest30 fr30
  dsimp only [Try.f7, tl]
  gi_wp2_with fail
  refine callX (st_new w46) ?_
  rintro e w47 ⟨x, rfl, X0⟩
  replace X0 := Lib.hid X0
  obtain ⟨w48, hw48⟩ : ∃ w48, w48 = w47.alloc (.cells longS 9) := ⟨_, rfl⟩
  have hb48 : Below w47.heap.size w47 w48 := by rw [hw48]; exact (Below.refl _ _).alloc (Nat.le_refl _) _
  have HX : Hid (XRel w46 x w47.heap.size 0 w48) := Lib.hid ⟨_, (X0.out.new hb48).weak (by omega) (Nat.le_refl _), by rw [hw48]; exact heap_alloc_eq _ _, fun ho => by have := X0.out.rep.lt ho; omega⟩
  replace hw48 := Lib.hid hw48
  clear hb48
  gi_wp2
  change Code.wpIn Fence.wide n Try.prog _ _ _ (w47.alloc (.cells longS 9))
  rw [← hw48.out]
  clear hw48 X0
  generalize w47.heap.size = lb at *
  gi_loopw [17] (fun i wr => ∃ k : Nat, k ≤ 5 ∧ i = .int .i64 k ∧ Hid (XRel w46 x lb k wr)) (fun i _ => 5 - (intOf i).toNat)
  case atStart => exact ⟨0, Nat.zero_le _, rfl, HX⟩
  case round =>
    obtain ⟨k, hk, rfl, hrel⟩ := hrel
    obtain ⟨T, S, hL, hO⟩ := hrel.out
    clear hrel HX
    by_cases hlt : k < 5
    · obtain ⟨bs, hbs, hcl⟩ : ∃ bs : ByteArray, Conv.runesFrom bs bs.size 0 #[] = ((longR.getD k []).map (Value.int .i32)).toArray ∧ wr.cell? ⟨lb, k, none⟩ = some (.string bs) := by
        rcases (by omega : k = 0 ∨ k = 1 ∨ k = 2 ∨ k = 3 ∨ k = 4) with rfl | rfl | rfl | rfl | rfl <;> (refine ⟨_, ?_, by rw [cell_of_row _ _ _ _ _ _ hL]; rfl⟩; rfl)
      have hz5 : (longR.getD k []).length ≤ 5 := by
        rcases (by omega : k = 0 ∨ k = 1 ∨ k = 2 ∨ k = 3 ∨ k = 4) with rfl | rfl | rfl | rfl | rfl <;> decide
      obtain ⟨b, cap, w5, hcv, hr, hbb, hF⟩ := convert_runes wr bs (longR.getD k []) hbs (by omega)
      have S5 := S.fr hF
      have hnb : (putsF longR k (longR.getD k [])).isSome = false := by
        rcases (by omega : k = 0 ∨ k = 1 ∨ k = 2 ∨ k = 3 ∨ k = 4) with rfl | rfl | rfl | rfl | rfl <;> rfl
      have hps' : (if false = true then (longR.take k).reverse else longR.getD k [] :: (longR.take k).reverse) = (longR.take (k + 1)).reverse := by
        rcases (by omega : k = 0 ∨ k = 1 ∨ k = 2 ∨ k = 3 ∨ k = 4) with rfl | rfl | rfl | rfl | rfl <;> rfl
      have hput := stf_put S5 (some ⟨b, 0, none⟩) cap (longR.getD k []) (k : Int) (by omega) hr (fun ad e _ ho => by
        cases e
        have := S.rep.lt ho
        simp only at this
        omega) (by simp only [List.length_reverse, List.length_take]; omega) (b := false) hnb (ps' := (longR.take (k + 1)).reverse) hps' (D' := 5) (Nat.le_refl _) hz5
      have hL5 := heap_fr hL hF
      have hnext : Hid (∀ e w', PutF w46 x false (fun q => if q = longR.getD k [] then some (Value.int IntKind.i64 (k : Int)) else putsF longR k q) (longR.take (k + 1)).reverse 5 (k + 1) T w5 e w' → XRel w46 x lb (k + 1) w') := Lib.hid fun e w' ⟨_, T', h1, h2, h3⟩ => by
        refine ⟨T', h1, h2.heap hL5 hO, fun ho => ?_⟩
        rcases h3 _ ho with h | h
        · exact hO h
        · have := lt_of_heap hL5
          omega
      replace hput := Lib.hid hput
      clear S S5 hL hO hr hL5 hbs hF hbb hnb hps'
      have hk1 : (0 : Int) ≤ (k : Int) := by omega
      have hk2 : (k : Int) < 5 := by omega
      generalize longR.getD k [] = zs at *
      gi_wp2_with fail
      refine callX hput.out ?_
      intro e w43 hq
      have hk3 := Lib.hid (hnext.out _ _ hq)
      obtain ⟨rfl, -⟩ := hq
      clear hput hnext hcl
      gi_wp2
      exact ⟨⟨k + 1, by omega, by simp, hk3⟩, by simp [intOf]; omega⟩
    · have hk7 : k = 5 := by omega
      subst hk7
      replace S := Lib.hid S
      clear hL hO
      have S0 : Hid (St Li w46 x (putsF longR 5) [[97], [97, 98], [97, 98, 99], [97, 98, 99, 100], [97, 98, 99, 100, 101]] 5 5 T wr) := S
      clear S
      gi_wp2_with fail
      refine callX (st_runes S0.out _ [97, 98, 99] (by rfl) (by decide)) ?_
      rintro e v1 ⟨Adv1, capv1, rfl, rv1, av1, S1⟩
      replace S1 := Lib.hid S1
      replace rv1 := Lib.hid rv1
      clear S0 av1
      gi_wp2_with fail
      refine callX (st_take S1.out (some Adv1) capv1 [97, 98, 99] (by decide) rv1.out (by decide) (b := true) rfl (ps' := [[97], [97, 98], [97, 98, 99, 100], [97, 98, 99, 100, 101]]) (by rfl)) ?_
      rintro e v2 ⟨rfl, Tv2, S2⟩
      replace S2 : Hid (St Li w46 x C1 [[97], [97, 98], [97, 98, 99, 100], [97, 98, 99, 100, 101]] 5 5 Tv2 v2) := Lib.hid S2
      clear S1 rv1
      gi_wp2_with fail
      refine callX (got_i S2.out _ [97, 98, 99, 100] 1 true (by rfl) (by decide) rfl rfl) ?_
      rintro e v3 ⟨rfl, hfv3⟩
      have S3 := Lib.hid (S2.out.fr hfv3)
      clear S2 hfv3
      gi_wp2_with fail
      refine callX (got_i S3.out _ [97, 98, 99, 100, 101] 0 true (by rfl) (by decide) rfl rfl) ?_
      rintro e v4 ⟨rfl, hfv4⟩
      have S4 := Lib.hid (S3.out.fr hfv4)
      clear S3 hfv4
      gi_wp2_with fail
      refine callX (longest33_i S4.out _ [97, 98, 99, 120] 3 2 true (by rfl) (by decide) rfl 2 rfl) ?_
      rintro e v5 ⟨rfl, hfv5⟩
      have S5 := Lib.hid (S4.out.fr hfv5)
      clear S4 hfv5
      gi_wp2_with fail
      refine callX (st_runes S5.out _ [97] (by rfl) (by decide)) ?_
      rintro e v6 ⟨Adv6, capv6, rfl, rv6, av6, S6⟩
      replace S6 := Lib.hid S6
      replace rv6 := Lib.hid rv6
      clear S5 av6
      gi_wp2_with fail
      refine callX (st_take S6.out (some Adv6) capv6 [97] (by decide) rv6.out (by decide) (b := true) rfl (ps' := [[97, 98], [97, 98, 99, 100], [97, 98, 99, 100, 101]]) (by rfl)) ?_
      rintro e v7 ⟨rfl, Tv7, S7⟩
      replace S7 : Hid (St Li w46 x C2 [[97, 98], [97, 98, 99, 100], [97, 98, 99, 100, 101]] 5 5 Tv7 v7) := Lib.hid S7
      clear S6 rv6
      gi_wp2_with fail
      refine callX (got_i S7.out _ [97, 98] 3 true (by rfl) (by decide) rfl rfl) ?_
      rintro e v8 ⟨rfl, hfv8⟩
      have S8 := Lib.hid (S7.out.fr hfv8)
      clear S7 hfv8
      gi_wp2_with fail
      refine callX (st_runes S8.out _ [97, 98, 99, 100, 101] (by rfl) (by decide)) ?_
      rintro e v9 ⟨Adv9, capv9, rfl, rv9, av9, S9⟩
      replace S9 := Lib.hid S9
      replace rv9 := Lib.hid rv9
      clear S8 av9
      gi_wp2_with fail
      refine callX (st_take S9.out (some Adv9) capv9 [97, 98, 99, 100, 101] (by decide) rv9.out (by decide) (b := true) rfl (ps' := [[97, 98], [97, 98, 99, 100]]) (by rfl)) ?_
      rintro e v10 ⟨rfl, Tv10, S10⟩
      replace S10 : Hid (St Li w46 x C3 [[97, 98], [97, 98, 99, 100]] 5 5 Tv10 v10) := Lib.hid S10
      clear S9 rv9
      gi_wp2_with fail
      refine callX (got_i S10.out _ [97, 98, 99, 100] 1 true (by rfl) (by decide) rfl rfl) ?_
      rintro e v11 ⟨rfl, hfv11⟩
      have S11 := Lib.hid (S10.out.fr hfv11)
      clear S10 hfv11
      gi_wp2_with fail
      refine callX (st_len S11.out (n := 2) rfl) ?_
      rintro e _ ⟨rfl, rfl⟩
      have hbF := S11.out.below
      have hkc := Boxed.cell ((hbF.block _ (lt_of_heap Hk.out)).trans Hk.out)
      have hwc := Boxed.cell ((hbF.block _ (lt_of_heap HU.out.box)).trans HU.out.box)
      have hbB : Boxed v11 b0 4 (.bool false) := (hbF.block _ (lt_of_heap Hbx.out)).trans Hbx.out
      have hbc := hbB.cell
      have hbf := hbB.frozen
      have G1 := Lib.hid (keep_new H1.out hbF)
      have G2 := Lib.hid (keep_new H2.out hbF)
      have G3 := Lib.hid (keep_new H3.out hbF)
      have G4 := Lib.hid (keep_new H4.out hbF)
      replace hbB := Lib.hid hbB
      replace hbF := Lib.hid hbF
      clear S11
      gi_wp2
      have hds := hd.out
      exact leave4 n _ _ w _ b0 d1 d2 d3 d4 rfl rfl (hbB.out.set _) hds ((heap_set_ne _ (by simp only; omega)).trans G1.out) ((heap_set_ne _ (by simp only; omega)).trans G2.out) ((heap_set_ne _ (by simp only; omega)).trans G3.out) ((heap_set_ne _ (by simp only; omega)).trans G4.out)
        ((Hb.out.trans (hbF.out.mono Hb.out.size)).setCell (by have := hbw.out; simp only; omega) _) (by have := hbw.out; omega)
end Go.Proofs.Ytioflglfnalcaaa


/- TrieRises: the walk's end: the second loop over an iterator, the third loop, the return. -/
import Derived.RegionIn
import Derived.StillTailTactics
import Derived.Sort.CutIn
import Derived.Test.YtioflglfnalcaaaQr
import Derived.Test.YtioflglfnalcaaaRb
import Derived.Test.YtioflglfnalcaaaKe
namespace Go.Proofs.Ytioflglfnalcaaa
open Go.RowKit

attribute [local go_sem] Oper.semAt_some

theorem callR {P : Program} {n : Nat} {f : FuncId} {args : Array Value} {w : World} {R R' : Ending → World → Prop} (h : Calls P f args w R) (hk : ∀ e w', R e w' → R' e w') :
    Fence.wide.fn f ∧ (Fence.wide.depth.isSome = true → 1 ≤ n) ∧ CallsIn Fence.wide (n - 1) P f args w R' := ⟨trivial, (by intro h; cases h), CallsIn.mono (callsIn_wide.2 h) hk⟩

/-- Rows that came in, none of them too long. -/
def RdRows4 (w : World) (Av : Option Addr) (rows : List (List Int)) : Prop := RdRows w Av rows ∧ ∀ i, i < rows.length → (rows.getD i []).length ≤ 35184372087808

theorem results_cell44 {fn : Func} (hfn : fn.results = #[.cell 4 4]) {tmps : Array Value} {b0 : Nat} {W : World} (ht : tmps.getD 4 undef = .pointer (some ⟨b0, 0, none⟩)) (hW : W.cell? ⟨b0, 0, none⟩ = some (.bool true)) : (results fn tmps).run Try.prog W = .ok (.bool true) W := by
  have h4 := Try.underlying4
  have ht' : tmps[4]?.getD undef = .pointer (some ⟨b0, 0, none⟩) := by rw [← Array.getD_eq_getD_getElem?]; exact ht
  simp [results, hfn, ht', hW, go_sem]
theorem leave2 (n : Nat) (fn : Func) (tmps : Array Value) (w W : World) (b0 d1 d2 : Nat) (hfn : fn.results = #[.cell 4 4]) (ht : tmps.getD 4 undef = .pointer (some ⟨b0, 0, none⟩)) (hW : Boxed W b0 4 (.bool true)) (hd : b0 < d1 ∧ d1 < d2)
    (h1 : W.heap[d1]? = some (.deferred (some []))) (h2 : W.heap[d2]? = some (.deferred (some []))) (hb : Below w.heap.size w W) (hw : w.heap.size ≤ b0) :
    LeavesInM Fence.wide n Try.prog fn tmps (WorksP w) [{ target := .collected d2, args := #[] }, { target := .collected d1, args := #[] }] .returning W := by
  obtain ⟨e1, e2⟩ := hd
  refine ⟨by simp, .inl ⟨_, _, rfl, run_takeDeferred h2, ?_⟩⟩
  have g1 := put_other (o' := .deferred none) h1 (l := d2) (by omega)
  refine ⟨by simp, .inl ⟨_, _, rfl, run_takeDeferred g1, ?_⟩⟩
  have gb : Boxed _ b0 4 (.bool true) := put_other (o' := .deferred none) (put_other (o' := .deferred none) hW (l := d2) (by omega)) (l := d1) (by omega)
  refine ⟨_, results_cell44 hfn ht gb.cell, rfl, ?_⟩
  have hs := hb.size
  exact (hb.trans (belowK_b (w := w) (Nat.le_refl _) W d2 _ _ (by omega) h2 rfl rfl)).trans (belowK_b (w := w) (Nat.le_refl _) _ d1 _ _ (by omega) g1 rfl rfl)

noncomputable def rest5 : Code := match Try.f5.body with
  | some c => tl 8 c
  | none => .skip

def fr5t (Av Al : Option Addr) (nr cap nl capl hb rb tb ri nb lb bb d : Nat) (y10 y11 y12 y13 y14 y15 y16 y17 y18 y19 y20 y21 y22 y23 y24 y25 y26 y27 y28 y29 y30 y31 y32 y33 y34 y35 y36 y37 y38 y39 y40 y41 y42 y43 y44 y45 y46 y47 y48 y49 y50 y51 y52 y53 y54 y55 y56 y57 y58 y59 y60 y61 y62 y63 y64 y65 y66 y67 y68 y69 y70 y71 y72 y73 y74 y75 y76 y77 y78 y79 y80 y81 y82 y83 y84 y85 y86 y87 y88 y89 y90 y91 y92 y93 y94 y95 y96 y97 y98 y99 y100 y101 y102 y103 y104 y105 y106 y107 y108 y109 y110 y111 y112 y113 y114 y115 y116 y117 y118 y119 y120 y121 y122 y123 y124 y125 y126 y127 y128 y129 y130 y131 y132 y133 y134 y135 y136 y137 y138 y139 y140 y141 y142 y143 y144 y145 y146 y147 y148 y149 y150 y151 y152 y153 y154 y155 y156 y157 y158 y159 y160 y161 y162 y163 y164 y165 : Value) : Act :=
  { tmps := #[.slice Av nr cap, .slice Al nl capl, undef, .pointer (some ⟨hb, 0, none⟩), .pointer (some ⟨rb, 0, none⟩), .pointer (some ⟨tb, 0, none⟩), .int .i64 (ri : Int), .pointer (some ⟨nb, 0, none⟩), .pointer (some ⟨lb, 0, none⟩), .pointer (some ⟨bb, 0, none⟩), y10, y11, y12, y13, y14, y15, y16, y17, y18, y19, y20, y21, y22, y23, y24, y25, y26, y27, y28, y29, y30, y31, y32, y33, y34, y35, y36, y37, y38, y39, y40, y41, y42, y43, y44, y45, y46, y47, y48, y49, y50, y51, y52, y53, y54, y55, y56, y57, y58, y59, y60, y61, y62, y63, y64, y65, y66, y67, y68, y69, y70, y71, y72, y73, y74, y75, y76, y77, y78, y79, y80, y81, y82, y83, y84, y85, y86, y87, y88, y89, y90, y91, y92, y93, y94, y95, y96, y97, y98, y99, y100, y101, y102, y103, y104, y105, y106, y107, y108, y109, y110, y111, y112, y113, y114, y115, y116, y117, y118, y119, y120, y121, y122, y123, y124, y125, y126, y127, y128, y129, y130, y131, y132, y133, y134, y135, y136, y137, y138, y139, y140, y141, y142, y143, y144, y145, y146, y147, y148, y149, y150, y151, y152, y153, y154, y155, y156, y157, y158, y159, y160, y161, y162, y163, y164, y165], defers := [{ target := .collected d, args := #[] }] }

theorem putsS_str' (rows : List (List Int)) (k : Nat) : ∀ p v, putsS rows k p = some v → ∃ x, v = .string x := fun _ _ h => ⟨_, putsS_val h⟩

/-- The second loop, k rounds being over. -/
def I2 (kb : Nat) (w9 : World) (k : Nat) (W : World) : Prop := Fr (fun j => j = kb) w9 W ∧ Boxed W kb 3 (.int .i64 (k : Int))

set_option maxHeartbeats 4000000 in
set_option maxRecDepth 100000 in
theorem rises_tail (n : Nat) (w w0 W : World) (Av Al : Option Addr) (cap capl tb nb lb bb d t : Nat) (rows : List (List Int)) (l : List Int) (ps : List (List Int)) (D m : Nat) (T : AT) (res : List (List Int × Value)) (bv : Value) (rvals : List Value)
    (hsz0 : w0.heap.size = w.heap.size + 2) (hb0 : Below w.heap.size w w0) (S : St Ls w0 t (putsS rows rows.length) ps D m T W) (g1 : ps.length ≤ rows.length) (g2 : m ≤ rows.length) (g3 : D ≤ 35184372087808) (hn : rows.length ≤ 5864062014805)
    (hres : res.length = ps.length) (hrf : belowRes T 35184372087809 l = res.filter fun x => begB l x.1) (hrm : ∀ q v, (q, v) ∈ res → putsS rows rows.length q = some v) (hdl : ∀ q v, (q, v) ∈ res → q.length ≤ 35184372087808)
    (hhb : Boxed W w.heap.size 36 (.slice Al l.length capl)) (hl : RdI W Al l) (hln : Al = none → capl = 0) (hll : l.length ≤ 35184372087808) (hrows : RdRows4 W Av rows) (hrb : Boxed W (w.heap.size + 1) 4 (.bool false))
    (htb : Boxed W tb 51 (ptr t)) (hnb : Boxed W nb 3 (.int .i64 (res.length : Int))) (hbel : BelIs (d + 2) W bb bv rvals (sel res l res.length)) (hd : W.heap[d]? = some (.deferred (some []))) (hord : w0.heap.size ≤ tb ∧ tb < nb ∧ nb < d)
    (hTo : ¬ T.own tb ∧ ¬ T.own nb ∧ ∀ j, T.own j → j < d)
    (y10 y11 y12 y13 y14 y15 y16 y17 y18 y19 y20 y21 y22 y23 y24 y25 y26 y27 y28 y29 y30 y31 y32 y33 y34 y35 y36 y37 y38 y39 y40 y41 y42 y43 y44 y45 y46 y47 y48 y49 y50 y51 y52 y53 y54 y55 y56 y57 y58 y59 y60 y61 y62 y63 y64 y65 y66 y67 y68 y69 y70 y71 y72 y73 y74 y75 y76 y77 y78 y79 y80 y81 y82 y83 y84 y85 y86 y87 y88 y89 y90 y91 y92 y93 y94 y95 y96 y97 y98 y99 y100 y101 y102 y103 y104 y105 y106 y107 y108 y109 y110 y111 y112 y113 y114 y115 y116 y117 y118 y119 y120 y121 y122 y123 y124 y125 y126 y127 y128 y129 y130 y131 y132 y133 y134 y135 y136 y137 y138 y139 y140 y141 y142 y143 y144 y145 y146 y147 y148 y149 y150 y151 y152 y153 y154 y155 y156 y157 y158 y159 y160 y161 y162 y163 y164 y165 : Value) : rest5.wpIn Fence.wide n Try.prog (bodyPostM Fence.wide n Try.prog Try.f5 (WorksP w)) (fr5t Av Al rows.length cap l.length capl w.heap.size (w.heap.size + 1) tb rows.length nb lb bb d y10 y11 y12 y13 y14 y15 y16 y17 y18 y19 y20 y21 y22 y23 y24 y25 y26 y27 y28 y29 y30 y31 y32 y33 y34 y35 y36 y37 y38 y39 y40 y41 y42 y43 y44 y45 y46 y47 y48 y49 y50 y51 y52 y53 y54 y55 y56 y57 y58 y59 y60 y61 y62 y63 y64 y65 y66 y67 y68 y69 y70 y71 y72 y73 y74 y75 y76 y77 y78 y79 y80 y81 y82 y83 y84 y85 y86 y87 y88 y89 y90 y91 y92 y93 y94 y95 y96 y97 y98 y99 y100 y101 y102 y103 y104 y105 y106 y107 y108 y109 y110 y111 y112 y113 y114 y115 y116 y117 y118 y119 y120 y121 y122 y123 y124 y125 y126 y127 y128 y129 y130 y131 y132 y133 y134 y135 y136 y137 y138 y139 y140 y141 y142 y143 y144 y145 y146 y147 y148 y149 y150 y151 y152 y153 y154 y155 y156 y157 y158 y159 y160 y161 y162 y163 y164 y165) W := by
  have hbw : Below w.heap.size w W := hb0.trans (S.below.mono (by omega))
  have ct := htb.cell
  have ch := hhb.cell
  have cn := hnb.cell
  have cb := hbel.1.cell
  rw [hres] at cn
  have hlen := Lib.hid (fun k => stlen_s (S.drewN k) (n := ps.length) rfl)
  have HS := Lib.hid S
  have Hbel := Lib.hid hbel
  have Hrows := Lib.hid hrows
  have Hl := Lib.hid hl
  have Hrf := Lib.hid hrf
  have Hrm := Lib.hid hrm
  have Hdl := Lib.hid hdl
  have Hhb := Lib.hid hhb
  have Hrb := Lib.hid hrb
  have Htb := Lib.hid htb
  have Hd := Lib.hid hd
  have Hln := Lib.hid hln
  have HTo := Lib.hid hTo
  have Hbw := Lib.hid hbw
  have hs1 : Hid ((sel res l res.length) = (res.filter fun x => begB l x.1).map (·.1)) := Lib.hid (sel_all res l)
  clear S hbel hrows hl hrf hrm hdl hhb hrb htb hnb hd hln hTo hbw hb0
  obtain ⟨QQ, hQQ⟩ : ∃ QQ, QQ = bodyPostM Fence.wide n Try.prog Try.f5 (WorksP w) := ⟨_, rfl⟩
  rw [← hQQ]
  replace hQQ := Lib.hid hQQ
  unfold rest5 fr5t
  dsimp only [Try.f5, tl]
  refine wpIn_wide.2 ?_
  have e1 : ((ps.length : Int) != (ps.length : Int)) = false := by simp
  have e2 : decide ((rows.length : Int) < (ps.length : Int)) = false := by simp; omega
  have e3 : ¬ (rows.length : Int) < (ps.length : Int) := by omega
  go_wp2
  go_quiet ((go_at_call 25; exact Calls.quiet_of_same ((hlen.out _).mono fun e w' ⟨h1, h2⟩ => ⟨h1, h2.symm⟩)))
  go_upto_region 23 with fail
  obtain ⟨w7, hw7⟩ : ∃ w7, w7 = W.drewN nq := ⟨_, rfl⟩
  have hF7 : Fr Nob W w7 := by rw [hw7]; exact (Fr.refl _ _).drewN _
  rw [← hw7]
  clear hw7 ct ch cn cb hlen e1 e2 e3
  obtain ⟨w8, hw8⟩ : ∃ w8, w8 = w7.alloc (.cells #[.int .i64 0] 3) := ⟨_, rfl⟩
  have hF8 : Fr Nob W w8 := by rw [hw8]; exact hF7.alloc _
  have hk8 : Boxed w8 w7.heap.size 3 (.int .i64 0) := by rw [hw8]; exact heap_alloc_eq _ _
  have hS8 := HS.out.fr hF8
  have ct := (boxed_fr Htb.out hF8).cell
  have ch := (boxed_fr Hhb.out hF8).cell
  have hl8 : RdI w8 Al l := RdI.frame Hl.out hF8 fun _ _ _ h => h
  have hbel8 := sts_below hS8 g3 (by omega) (by omega) (putsS_str' rows rows.length) Al capl l hl8 Hln.out hll
  rw [Hrf.out] at hbel8
  have hsz7 : W.heap.size ≤ w7.heap.size := hF7.size
  have hsz8 : w8.heap.size = w7.heap.size + 1 := by rw [hw8]; simp
  replace hw8 := Lib.hid hw8
  rw [hw8.out] at ct ch
  replace hbel8 := Lib.hid hbel8
  replace hk8 := Lib.hid hk8
  clear hS8 hl8 hF7
  go_upto_region 24 with fail
  go_wp2_with fail
  rw [← hw8.out]
  clear ct ch
  generalize w7.heap.size = kb at *
  refine hbel8.out.mono ?_
  rintro e w9 ⟨br, bt, rv, tv, rvals2, rfl, hC, hb9⟩
  have hF9 := Lib.hid (hF8.trans (Fr.of_below hb9 Nob) fun _ _ h => h)
  have hk9 := Lib.hid (boxed_new hk8.out hb9)
  have hC' := Lib.hid hC
  have hsz9 := hb9.size
  clear hbel8 hk8 hC hb9 hF8 hw8
  go_wp2_with fail
  refine wpIn_wide (n := n).1 ?_
  obtain ⟨res2, hres2⟩ : ∃ r, r = res.filter fun x => begB l x.1 := ⟨_, rfl⟩
  rw [← hres2] at hC' hs1
  have hm2 : ∀ q v, (q, v) ∈ res2 → (q, v) ∈ res := fun q v h => by rw [hres2] at h; exact (List.mem_filter.1 h).1
  have hl2 : res2.length ≤ res.length := by rw [hres2]; exact List.length_filter_le _ _
  replace hm2 := Lib.hid hm2
  have hsl : (sel res l res.length).length = res2.length := by rw [hs1.out]; simp
  clear hres2
  have hkw9 : kb < w9.heap.size := hk9.out.lt
  have hkd : d < kb := by have := lt_of_heap Hd.out; omega
  refine S.wp_range_rows (B := w8.heap.size) (br := br) (bt := bt) (rv := rv) (tv := tv) (rvals := rvals2) (res := res2) rfl rfl (I2 kb w9) (fun _ _ => False) ?hC2 (fun x hx => by have := Hdl.out x.1 x.2 (hm2.out _ _ hx); omega) (by omega) ?hI2 ?hIx2 ?h02 ?hround2 ?hdone2 ?hstop2
  case hC2 =>
    rintro k W' ⟨h1, -⟩
    refine hC'.out.frB h1 (fun j hj => ?_) fun j hj c t f hc => ?_
    · left; subst hj; omega
    · subst hj
      rw [hk9.out] at hc; injection hc with hc; injection hc with _ hc; rw [← hc]; decide
  case hI2 => exact fun k W W' h hf => ⟨h.1.trans hf fun j hj e => (by rcases e with rfl | rfl <;> omega), hf.heap h.2 (fun e => by rcases e with rfl | rfl <;> omega)⟩
  case hIx2 => exact fun _ _ _ h _ => h
  case h02 => exact ⟨Fr.refl _ _, hk9.out⟩
  case hstop2 => exact fun _ _ h _ => h.elim
  case hround2 =>
    rintro l' k A cap2 p v Wa W2 hkv ⟨⟨W0, ⟨hJ0, hJ1⟩, hF02, hsz, hfr⟩, hrd, hn0, hcap⟩
    have hF2 : Fr (fun j => j = kb) w9 W2 := hJ0.trans hF02 fun j hj e => (by rcases e with rfl | rfl <;> omega)
    have hB2 : Boxed W2 kb 3 (.int .i64 (k : Int)) := hF02.heap hJ1 (fun e => by rcases e with rfl | rfl <;> omega)
    have hF22 : Fr (fun j => j = kb) W W2 := (hF9.out.mono fun _ _ h => h.elim).trans hF2 fun _ _ h => h
    have hkl : k < res2.length := by
      rcases Nat.lt_or_ge k res2.length with h1 | h1
      · exact h1
      · rw [List.getElem?_eq_none h1] at hkv; cases hkv
    have hmem : (p, v) ∈ res := hm2.out _ _ (List.mem_of_getElem? hkv)
    have hpl := Hdl.out p v hmem
    obtain rfl := putsS_val (Hrm.out p v hmem)
    have hp : (sel res l res.length).getD k [] = p := by rw [hs1.out]; simp [List.getD, hkv]
    have hbb2 : Boxed W2 bb 43 bv := hF22.heap Hbel.out.1 (fun e => by have := Hbel.out.1.lt; omega)
    obtain ⟨g, cpg, u, rfl, hu1, hu2⟩ := own_cell Hbel.out.2.1 (k := k) (by omega)
    obtain ⟨A', cap', hu3, hz1, hz2, hz3, hz4⟩ := Hbel.out.2.2.2 k (by omega)
    rw [hp] at hu3 hz1 hz3
    rw [hu1] at hu3
    injection hu3 with hu3
    subst hu3
    have hcu : W2.cell? ⟨g, k, none⟩ = some (.slice A' p.length cap') := hF22.cell hu2 (fun e => by have h1 := cell_lt hu2; have h2 : g = kb := e; omega)
    have hz5 : RdT W2 A' p := RdT.frame hz1 hF22 fun b c f hb e => by have h1 := lt_of_heap hb; have h2 : b = kb := e; omega
    have hsame := same_runes W2 A A' cap2 cap' p p (by omega) hrd.rd hz5.rd
    rw [decide_eq_true rfl] at hsame
    replace hsame := Lib.hid hsame
    have ck := hB2.cell
    have fk := hB2.frozen
    have cb := hbb2.cell
    have hcvm := fun m => conv_str (W := W2.drewN m) (A := A) (cap := cap2) (p := p) hrd hn0 hcap
    rw [hsl] at cb
    have hnx : Hid (∀ m, rowPost w9.heap.size (I2 kb w9 (k + 1)) (fun _ _ => False) W2 .normal { tmps := #[], defers := [] } ((W2.drewN m).setCell ⟨kb, 0, none⟩ (.int .i64 ((k : Int) + 1)))) := by
      refine Lib.hid fun m => ⟨fun j hj => heap_set_ne _ (by rcases hj with rfl | rfl <;> (simp only; omega)), ?_, ?_⟩
      · exact (hF2.drewN m).setCell (p := ⟨kb, 0, none⟩) (.inl rfl) _
      · rw [show ((k + 1 : Nat) : Int) = (k : Int) + 1 by omega]
        have hd : Boxed (W2.drewN m) kb 3 (.int .i64 (k : Int)) := hB2
        exact hd.set _
    have hk0 : (0 : Int) ≤ (k : Int) := by omega
    have hk1 : decide ((res2.length : Int) ≤ (k : Int)) = false := by simp; omega
    have hk2 : (k : Int) < (res2.length : Int) := by omega
    have hk3 : ¬ (res2.length : Int) ≤ (k : Int) := by omega
    have hk4 : k < 5864062014805 := by omega
    clear hF2 hB2 hF22 hmem hp hbb2 hu1 hu2 hz1 hz2 hz3 hz4 hz5 hrd hn0 hcap hJ0 hJ1 hF02 hfr hkv
    generalize runesBytes p = rb at *
    generalize p.length = pn at *
    gi_wp2
    refine ⟨trivial, ?_⟩
    gi_wp2_with fail
    refine ⟨(by intro h; cases h), CallsIn.mono (callsIn_wide.2 hsame.out) ?_⟩
    rintro e _ ⟨rfl, m, rfl⟩
    gi_wp2
    have hf3 := hnx.out m
    obtain ⟨hf1, hf2⟩ := hf3
    exact ⟨hf1, hf2⟩
  case hdone2 =>
    rintro W3 ⟨hF3, hB3⟩ hD3
    have hFW : Fr (fun j => j = kb) W W3 := (hF9.out.mono fun _ _ h => h.elim).trans hF3 fun _ _ h => h
    have hb3 : Boxed W3 bb 43 bv := hFW.heap Hbel.out.1 (fun e => by have h1 := Hbel.out.1.lt; have h2 : bb = kb := e; omega)
    obtain ⟨Ab, capb, rfl⟩ : ∃ A c, bv = .slice A res2.length c := by
      rcases Hbel.out.2.1.2 with ⟨h1, h2⟩ | ⟨g, c, cur, h1, _⟩
      · exact ⟨none, 0, by rw [h1]; congr 1; omega⟩
      · exact ⟨some ⟨g, 0, none⟩, c, by rw [h1]; congr 1⟩
    have ht3 : Boxed W3 tb 51 (ptr t) := hFW.heap Htb.out (fun e => by have h2 : tb = kb := e; omega)
    have hr3 : Boxed W3 (w.heap.size + 1) 4 (.bool false) := hFW.heap Hrb.out (fun e => by have h2 : w.heap.size + 1 = kb := e; omega)
    have hd3 : W3.heap[d]? = some (.deferred (some [])) := hFW.heap Hd.out (fun e => by have h2 : d = kb := e; omega)
    have hS3 : Hid (St Ls w0 t (putsS rows rows.length) ps D m T W3) := Lib.hid (HS.out.frT hFW (fun j hj e => by have h1 := HTo.out.2.2 j hj; have h2 : j = kb := e; omega) (fun j e => by have h2 : j = kb := e; omega))
    have hrow3 : Hid (RdRows4 W3 Av rows) := Lib.hid ⟨fun i hi => by
      obtain ⟨b, off, A, c, h1, h2, h3, h4⟩ := Hrows.out.1 i hi
      refine ⟨b, off, A, c, h1, hFW.cell h2 (fun e => by have h5 := cell_lt h2; have h6 : b = kb := e; omega), fun j hj => ?_, h4⟩
      obtain ⟨b2, off2, e2, hc2⟩ := h3 j hj
      exact ⟨b2, off2, e2, hFW.cell hc2 (fun e => by have h5 := cell_lt hc2; have h6 : b2 = kb := e; omega)⟩, Hrows.out.2⟩
    have hbw3 : Hid (Below w.heap.size w W3) := Lib.hid (Hbw.out.trans (hFW.below Hbw.out.size fun j e => by have h2 : j = kb := e; omega))
    have ct := ht3.cell
    have cb := hb3.cell
    have ck := hB3.cell
    have cr := hr3.cell
    have fr := hr3.frozen
    replace hr3 := Lib.hid hr3
    replace hd3 := Lib.hid hd3
    have hD3' : Hid (W3.heap[w9.heap.size]? = some (.deferred (some []))) := Lib.hid hD3
    have hdd : w.heap.size + 1 < d ∧ d < w9.heap.size := by omega
    clear hF3 hB3 hD3 hFW hb3 ht3 hC' Hbel
    generalize w9.heap.size = d2 at *
    go_step
    go_step
    go_wp2_with fail
    go_loopw [17] (fun i wr => ∃ k nn : Nat, k ≤ rows.length ∧ i = .int .i64 k ∧ wr = W3.drewN nn) (fun i _ => rows.length - (intOf i).toNat)
    case atStart => exact ⟨0, 0, Nat.zero_le _, rfl, rfl⟩
    case round =>
      obtain ⟨k, nn, hk, rfl, rfl⟩ := hrel
      by_cases hlt : k < rows.length
      · obtain ⟨b, off, A, c, rfl, hc, hrd, hle⟩ := hrow3.out.1 k hlt
        obtain ⟨v, hv⟩ := Option.isSome_iff_exists.1 (putsS_has (rows := rows) hlt)
        have hget : Hid (∀ x, Calls Try.prog 22 #[ptr t, .slice A (rows.getD k []).length c] (W3.drewN x) fun e w' => e = .returned (.tuple #[v, .bool true]) ∧ w' = W3.drewN x) := Lib.hid fun x =>
          (stget_s (hS3.out.drewN x) A c (rows.getD k []) hle (hrd : RdI (W3.drewN x) A _) (b := true) (v := v) (by rw [hv]; rfl) (by rw [hv]; rfl)).mono fun e w' ⟨h1, h2⟩ => ⟨h1, h2.symm⟩
        have hk0 : (0 : Int) ≤ (k : Int) := by omega
        have hk1 : (k : Int) < (rows.length : Int) := by omega
        clear hrd hv
        generalize rows.getD k [] = zs at *
        go_wp2
        go_quiet ((go_at_call 22; first | exact Calls.quiet_of_same (hget.out _) | exact (hget.out _).mono fun e w' ⟨h1, h2⟩ => ⟨h1, _, h2⟩))
        go_wp2
        go_roundw
        case rel => exact ⟨k + 1, _, by omega, by go_num, by first | rfl | exact World.drewN_drewN _ _ _⟩
        case measure => simp [intOf]; omega
      · go_wp2
        rw [hQQ.out]
        have hF4 : Fr (fun j => j = w.heap.size + 1) W3 ((W3.drewN nn).setCell ⟨w.heap.size + 1, 0, none⟩ (.bool true)) := ((Fr.refl (fun j => j = w.heap.size + 1) W3).drewN nn).setCell (p := ⟨w.heap.size + 1, 0, none⟩) (.inl rfl) _
        have hrd4 : Boxed (W3.drewN nn) (w.heap.size + 1) 4 (.bool false) := hr3.out
        exact leave2 n Try.f5 _ w _ (w.heap.size + 1) d d2 rfl rfl (hrd4.set _) hdd (hF4.heap hd3.out (fun e => by have h2 : d = w.heap.size + 1 := e; omega)) (hF4.heap hD3'.out (fun e => by have h2 : d2 = w.heap.size + 1 := e; omega))
          (hbw3.out.trans (hF4.below hbw3.out.size fun j e => by have h2 : j = w.heap.size + 1 := e; omega)) (by omega)
end Go.Proofs.Ytioflglfnalcaaa

/- glossarylaw04.TriePlays returns true, whatever the calls, and its input reads as it did. No condition. (Part M6.) -/
import Derived.Sort.LoopGhostIn
import Derived.BigQuiet
import Derived.Test.YtioflglfnalcaaaM5
import Derived.LoopNIn
import Derived.Deep.Slices
import Derived.Deep.Fields
import Derived.ChangeSame
import Derived.Test.YtioflglfnalcaaaRo
/- TriePlays: its loop over the pairs: printed by gen_py.py. -/
namespace Go.Proofs.Ytioflglfnalcaaa
open Go.RowKit

attribute [local go_sem] Oper.semAt_some

theorem outs_len (L : List RowT) : (outs L).length = L.length := by simp [outs]
theorem outs_get {L : List RowT} {k : Nat} {p : List Int} {v : Value} (h : (outs L)[k]? = some (p, v)) : ∃ x, L[k]? = some x ∧ p = x.1 ∧ v = .int .i64 x.2 := by
  unfold outs at h
  rw [List.getElem?_map] at h
  cases hw : L[k]? with
  | none => rw [hw] at h; cases h
  | some x => rw [hw] at h; injection h with h; injection h with h1 h2; exact ⟨x, rfl, h1.symm, h2.symm⟩
theorem outs_lens {L : List RowT} (h : ∀ x ∈ L, x.1.length ≤ 35184372087808) : ∀ x ∈ outs L, x.1.length ≤ 35184372088832 := fun x hx => by
  obtain ⟨y, hy, rfl⟩ := List.mem_map.1 hx
  have := h y hy
  simp only; omega
theorem Fr.nob {S : Nat → Prop} {w w' : World} (h : Fr S w w') (hs : ∀ j, S j → w.heap.size ≤ j) : Fr Nob w w' := h.mono fun j hj e => by have := hs j e; omega
theorem Coll.monoB {tr ti ei : TypeId} {B B' : Nat} {w : World} {br bt : Nat} {rv tv : Value} {rvals vals : List Value} {rows : List (List Int)} (h : Coll tr ti ei B w br bt rv tv rvals vals rows) (hb : B' ≤ B) : Coll tr ti ei B' w br bt rv tv rvals vals rows :=
  ⟨Nat.le_trans hb h.hb, Nat.le_trans hb h.hb2, h.box, h.own.mono hb, h.are, h.tbox, h.town.mono hb⟩
theorem Coll.frNob {B : Nat} {w w' : World} {br bt : Nat} {rv tv : Value} {rvals vals : List Value} {rows : List (List Int)} (h : Coll 43 64 3 B w br bt rv tv rvals vals rows) (k : Fr Nob w w') : Coll 43 64 3 B w' br bt rv tv rvals vals rows :=
  h.frB k (fun _ h => h.elim) fun _ h => h.elim

set_option maxHeartbeats 4000000 in
set_option maxRecDepth 100000 in
theorem u3_0 (n : Nat) (Q : Exit → Act → World → Prop) (W : World) (pb ib t : Nat) (T : AT) (v : Value) (L : List RowT) (ks : List (List Int)) (hP : Pq AnyZ W pb 0 t T v L L ks) (hib : Boxed W ib 3 (.int .i64 0)) (hip : ib ≠ pb) (ds : List Nat) (y0 y1 y2 y4 y5 : Value)
    (hQ : ∀ W' ib' d1 d2, Fr Nob W W' → Boxed W' ib' 3 (.int .i64 1) → W'.heap[d1]? = some (.deferred (some [])) → W'.heap[d2]? = some (.deferred (some [])) → W.heap.size ≤ d1 → d1 < d2 → W.heap.size ≤ ib' → ∀ y6 y7 y9 y10 y11 y12 y13 y14 y15 y16 y17 y18 y19 y20 y21 y22 y23 y24 y25 y26 y27 y28 y29 y30 y31 y32 y33 y34 y35 y36 y37 y38 y39 y40 y41 y42 y43 y44 y45 y46 y47 y48 y49 y50 y51 y52 y53 y54 y55 y56 y57 y58 y59 y60 y61 y62 y63 y64 y65 y66 y67 y68 y69 y70 y71 y72 y73 y74 y75 y76 y77 y78 y79 y80 y81 y82 y83 y84 y85 y86 y87 y88 y89 y90 y91 y92 y93 y94 y95 y96 y97 y98 y99 y100 y101 y102 y103 y104 y105 y106 y107 y108 y109 y110 y111 y112 y113 y114 y115 y116 y117 y118 y119 y120 y121 y122 y123 y124 y125 y126 y127 y128 y129 y130 y131 y132 y133 y134 y135 y136 y137 y138 y139 y140 y141 y142 y143 y144 y145 y146 y147 y148, Q .normal (fT y0 y1 y2 (.pointer (some ⟨pb, 0, none⟩)) y4 y5 y6 y7 (.pointer (some ⟨ib', 0, none⟩)) y9 y10 y11 y12 y13 y14 y15 y16 y17 y18 y19 y20 y21 y22 y23 y24 y25 y26 y27 y28 y29 y30 y31 y32 y33 y34 y35 y36 y37 y38 y39 y40 y41 y42 y43 y44 y45 y46 y47 y48 y49 y50 y51 y52 y53 y54 y55 y56 y57 y58 y59 y60 y61 y62 y63 y64 y65 y66 y67 y68 y69 y70 y71 y72 y73 y74 y75 y76 y77 y78 y79 y80 y81 y82 y83 y84 y85 y86 y87 y88 y89 y90 y91 y92 y93 y94 y95 y96 y97 y98 y99 y100 y101 y102 y103 y104 y105 y106 y107 y108 y109 y110 y111 y112 y113 y114 y115 y116 y117 y118 y119 y120 y121 y122 y123 y124 y125 y126 y127 y128 y129 y130 y131 y132 y133 y134 y135 y136 y137 y138 y139 y140 y141 y142 y143 y144 y145 y146 y147 y148 (Dl (d2 :: d1 :: ds))) W') (y6 y7 y9 y10 y11 y12 y13 y14 y15 y16 y17 y18 y19 y20 y21 y22 y23 y24 y25 y26 y27 y28 y29 y30 y31 y32 y33 y34 y35 y36 y37 y38 y39 y40 y41 y42 y43 y44 y45 y46 y47 y48 y49 y50 y51 y52 y53 y54 y55 y56 y57 y58 y59 y60 y61 y62 y63 y64 y65 y66 y67 y68 y69 y70 y71 y72 y73 y74 y75 y76 y77 y78 y79 y80 y81 y82 y83 y84 y85 y86 y87 y88 y89 y90 y91 y92 y93 y94 y95 y96 y97 y98 y99 y100 y101 y102 y103 y104 y105 y106 y107 y108 y109 y110 y111 y112 y113 y114 y115 y116 y117 y118 y119 y120 y121 y122 y123 y124 y125 y126 y127 y128 y129 y130 y131 y132 y133 y134 y135 y136 y137 y138 y139 y140 y141 y142 y143 y144 y145 y146 y147 y148 : Value) :
    lp3.wpIn Fence.wide n Try.prog Q (fT y0 y1 y2 (.pointer (some ⟨pb, 0, none⟩)) y4 y5 y6 y7 (.pointer (some ⟨ib, 0, none⟩)) y9 y10 y11 y12 y13 y14 y15 y16 y17 y18 y19 y20 y21 y22 y23 y24 y25 y26 y27 y28 y29 y30 y31 y32 y33 y34 y35 y36 y37 y38 y39 y40 y41 y42 y43 y44 y45 y46 y47 y48 y49 y50 y51 y52 y53 y54 y55 y56 y57 y58 y59 y60 y61 y62 y63 y64 y65 y66 y67 y68 y69 y70 y71 y72 y73 y74 y75 y76 y77 y78 y79 y80 y81 y82 y83 y84 y85 y86 y87 y88 y89 y90 y91 y92 y93 y94 y95 y96 y97 y98 y99 y100 y101 y102 y103 y104 y105 y106 y107 y108 y109 y110 y111 y112 y113 y114 y115 y116 y117 y118 y119 y120 y121 y122 y123 y124 y125 y126 y127 y128 y129 y130 y131 y132 y133 y134 y135 y136 y137 y138 y139 y140 y141 y142 y143 y144 y145 y146 y147 y148 (Dl ds)) W := by
  have hlens := hP.tri.lens
  have hlen := hP.tri.len
  have hpbl := hP.lt
  have hibl := hib.lt
  have htl : ∀ j, T.own j → j < W.heap.size := fun j hj => hP.tri.rep.lt hj
  obtain ⟨W1, hW1⟩ : ∃ W1, W1 = W.alloc (.cells #[.int .i64 0] 3) := ⟨_, rfl⟩
  have hb1 : Below W.heap.size W W1 := by rw [hW1]; exact (Below.refl _ _).alloc (Nat.le_refl _) _
  have hk1 : Boxed W1 W.heap.size 3 (.int .i64 0) := by rw [hW1]; exact heap_alloc_eq _ _
  have hs1 : W1.heap.size = W.heap.size + 1 := by rw [hW1]; simp
  have hP1 := hP.new hb1
  have hall := Lib.hid (tri_all hP1.tri)
  have cib := hib.cell
  have cib1 := (boxed_new hib hb1).cell
  have ct1 := hP1.c0
  have F1 := Fr.of_below hb1 Nob
  have hib1 := Lib.hid (boxed_new hib hb1)
  rw [hW1] at cib1 ct1
  replace hW1 := Lib.hid hW1
  have HP := Lib.hid hP
  have HIB := Lib.hid hib
  have HQ := Lib.hid hQ
  replace F1 := Lib.hid F1
  replace hk1 := Lib.hid hk1
  replace hlens := Lib.hid hlens
  replace htl := Lib.hid htl
  obtain ⟨kb, hkb⟩ : ∃ kb, kb = W.heap.size := ⟨_, rfl⟩
  rw [← hkb] at hk1
  have hkb1 : W.heap.size ≤ kb ∧ kb ≤ W.heap.size ∧ kb + 1 ≤ W1.heap.size ∧ W1.heap.size ≤ kb + 1 := by omega
  replace hkb := Lib.hid hkb
  replace hs1 := Lib.hid hs1
  clear hP hib hb1 hP1 hQ
  unfold lp3 f3l fT
  dsimp only [Try.f3, bodyOf, sqF, sqS, cdT, cdE, bkB, lpB, rfB]
  gi_wp2_with fail
  rw [← hW1.out, ← hkb.out]
  refine callR hall.out ?_
  rintro e W2 ⟨br, bt, rv, tv, rvals, rfl, hC2, hb2⟩
  have F2 := F1.out.trans (Fr.of_below hb2 Nob) fun _ _ h => h
  have hs2 := hb2.size
  have hk2 : Boxed W2 kb 3 (.int .i64 ((0 : Nat) : Int)) := boxed_new hk1.out hb2
  have hI0 := Lib.hid (show IK W2 kb 0 W2 from ⟨Fr.refl _ _, hk2⟩)
  have hP2 := HP.out.fr F2
  have hibB2 : Boxed W2 ib 3 (.int .i64 0) := boxed_fr HIB.out F2
  have hrnd := Lib.hid (fun l k A cap x (hx : L[k]? = some x) W' hnow => rA0_i l (n - 1 - 1) W2 W' pb ib 0 kb k v L A cap x hibB2 hP2.c1 ⟨by omega, by omega⟩ hP2.ref hx (hlens.out x (List.mem_of_getElem? hx)) hlen (by omega) ⟨_, hk2⟩ hnow)
  have hCk := Lib.hid (fun k W (h : IK W2 kb k W) => hC2.frB h.1 (fun j e => .inl (by omega)) fun j e c ty f hc => by
    subst e
    rw [hk2] at hc
    injection hc with hc; injection hc with _ hc
    rw [← hc]; decide)
  clear hall F1 hC2 hb2
  gi_wp2_with fail
  refine wp_range_rows (B := W1.heap.size) (br := br) (bt := bt) (rv := rv) (tv := tv) (rvals := rvals) (res := outs L) rfl rfl (IK W2 kb) (fun _ _ => False) (fun k W h => hCk.out k W h) (outs_lens hlens.out) (by rw [outs_len]; omega) (fun k W1 W2 h hf => h.two (by omega) hf) (fun _ _ _ h _ => h) hI0.out ?hround1 ?hdone1 (fun _ _ h _ => h.elim)
  case hround1 =>
    rintro l k A cap p u W3 W4 hkv hnow
    obtain ⟨x, hx, rfl, rfl⟩ := outs_get hkv
    have hr := Lib.hid (hrnd.out l k A cap x hx W4 hnow)
    clear hnow hkv hx hrnd HQ
    gi_wp2
    refine ⟨trivial, ?_⟩
    refine wpIn_block ?_
    exact wpIn_mono (hr.out _ _ _ _ _ _ _ _ _ _ _ _ _ _ _ _ _ _ _ _ _ _ _ _ _ _ _ _ _ _ _ _ _ _ _ _ _ _ _ _ _ _ _ _ _ _ _ _ _ _ _ _ _ _ _ _ _ _ _ _ _ _ _ _ _ _ _ _ _ _ _ _ _ _ _ _ _ _ _ _ _ _ _ _ _ _ _ _ _ _ _ _ _ _ _ _ _ _ _ _ _ _ _ _ _ _ _ _ _ _ _ _ _ _ _ _ _ _ _ _ _ _ _ _ _ _ _ _ _ _ _ _ _ _ _ _ _ _ _ _ _ _ _ _ _) fun e a w h => rowPost_blockF h
  case hdone1 =>
    intro W3 hI3 hD3
    rw [outs_len] at hI3
    clear hrnd hCk hI0 hk2 hP2 hibB2
    have F3 : Fr Nob W W3 := F2.trans hI3.1 fun j hj e => by omega
    have hs3 := hI3.1.size
    obtain ⟨W4, hW4⟩ : ∃ W4, W4 = W3.alloc (.cells #[.int .i64 0] 3) := ⟨_, rfl⟩
    have hb4 : Below W3.heap.size W3 W4 := by rw [hW4]; exact (Below.refl _ _).alloc (Nat.le_refl _) _
    have hn4 : Boxed W4 W3.heap.size 3 (.int .i64 0) := by rw [hW4]; exact heap_alloc_eq _ _
    have hs4 : W4.heap.size = W3.heap.size + 1 := by rw [hW4]; simp
    have F4 := F3.trans (Fr.of_below hb4 Nob) fun _ _ h => h
    have hP4 := HP.out.fr F4
    have hbel : Hid (Calls Try.prog 13 #[ptr t, .slice none 0 0] W4 (BelowPost 43 64 3 48 W4 (outs L))) := Lib.hid (by
      have := tri_below hP4.tri none 0 [] (RdI.nil _ _) (fun _ => rfl) (by simp)
      rwa [belowR_nil] at this)
    have cib4 := (show Boxed W4 ib 3 (.int .i64 0) from boxed_fr HIB.out F4).cell
    have ct4 := hP4.c0
    rw [hW4] at cib4 ct4
    have hk4 := Lib.hid (boxed_new hI3.2 hb4)
    have hD4 := Lib.hid ((hb4.block _ (lt_of_heap hD3)).trans hD3)
    replace hW4 := Lib.hid hW4
    obtain ⟨nb, hnb⟩ : ∃ nb, nb = W3.heap.size := ⟨_, rfl⟩
    rw [← hnb] at hn4
    have hnb1 : W3.heap.size ≤ nb ∧ nb ≤ W3.heap.size ∧ nb + 1 ≤ W4.heap.size ∧ W4.heap.size ≤ nb + 1 := by omega
    replace hnb := Lib.hid hnb
    replace hs4 := Lib.hid hs4
    replace hn4 := Lib.hid hn4
    have HF4 := Lib.hid F4
    clear hI3 hD3 hb4 F3 F4 hP4 F2 hib1 hk1
    gi_step
    gi_wp2_with fail
    rw [← hW4.out, ← hnb.out]
    refine callR hbel.out ?_
    rintro e W5 ⟨br5, bt5, rv5, tv5, rvals5, rfl, hC5, hb5⟩
    have F5 := HF4.out.trans (Fr.of_below hb5 Nob) fun _ _ h => h
    have hs5 := hb5.size
    have hn5 : Boxed W5 nb 3 (.int .i64 ((0 : Nat) : Int)) := boxed_new hn4.out hb5
    have hk5 := Lib.hid (boxed_new hk4.out hb5)
    have hD5 := Lib.hid ((hb5.block _ (lt_of_heap hD4.out)).trans hD4.out)
    have hI5 := Lib.hid (show IK W5 nb 0 W5 from ⟨Fr.refl _ _, hn5⟩)
    have hP5 := HP.out.fr F5
    have hibB5 : Boxed W5 ib 3 (.int .i64 0) := boxed_fr HIB.out F5
    have hrnd5 := Lib.hid (fun l k A cap x (hx : L[k]? = some x) W' hnow => rB0_i l (n - 1 - 1) W5 W' pb ib 0 nb k v L A cap x hibB5 hP5.c1 ⟨by omega, by omega⟩ hP5.ref hx (hlens.out x (List.mem_of_getElem? hx)) hlen (by omega) ⟨_, hn5⟩ hnow)
    have hCk5 := Lib.hid (fun k W (h : IK W5 nb k W) => hC5.frB h.1 (fun j e => .inl (by omega)) fun j e c ty f hc => by
      subst e
      rw [hn5] at hc
      injection hc with hc; injection hc with _ hc
      rw [← hc]; decide)
    clear hbel HF4 hC5 hb5 hn4 hk4 hD4 hW4 cib4 ct4
    gi_wp2_with fail
    refine wp_range_rows (B := W4.heap.size) (br := br5) (bt := bt5) (rv := rv5) (tv := tv5) (rvals := rvals5) (res := outs L) rfl rfl (IK W5 nb) (fun _ _ => False) (fun k W h => hCk5.out k W h) (outs_lens hlens.out) (by rw [outs_len]; omega) (fun k W1 W2 h hf => h.two (by omega) hf) (fun _ _ _ h _ => h) hI5.out ?hround2 ?hdone2 (fun _ _ h _ => h.elim)
    case hround2 =>
      rintro l k A cap p u W6 W7 hkv hnow
      obtain ⟨x, hx, rfl, rfl⟩ := outs_get hkv
      have hr := Lib.hid (hrnd5.out l k A cap x hx W7 hnow)
      clear hnow hkv hx hrnd5 HQ
      gi_wp2
      refine ⟨trivial, ?_⟩
      refine wpIn_block ?_
      exact wpIn_mono (hr.out _ _ _ _ _ _ _ _ _ _ _ _ _ _ _ _ _ _ _ _ _ _ _ _ _ _ _ _ _ _ _ _ _ _ _ _ _ _ _ _ _ _ _ _ _ _ _ _ _ _ _ _ _ _ _ _ _ _ _ _ _ _ _ _ _ _ _ _ _ _ _ _ _ _ _ _ _ _ _ _ _ _ _ _ _ _ _ _ _ _ _ _ _ _ _ _ _ _ _ _ _ _ _ _ _ _ _ _ _ _ _ _ _ _ _ _ _ _ _ _ _ _ _ _ _ _ _ _ _ _ _ _ _ _ _ _ _ _ _ _ _ _ _ _ _) fun e a w h => rowPost_blockF h
    case hdone2 =>
      intro W6 hI6 hD6
      rw [outs_len] at hI6
      have F6 : Fr Nob W W6 := F5.trans hI6.1 fun j hj e => by omega
      have hs6 := hI6.1.size
      have hD5' := hD5.out
      have hD5l := lt_of_heap hD5'
      have hD6l := lt_of_heap hD6
      have hk6 : Boxed W6 kb 3 (.int .i64 (L.length : Int)) := hI6.1.heap hk5.out fun e => by omega
      have hD7 : W6.heap[W2.heap.size]? = some (.deferred (some [])) := hI6.1.heap hD5' fun e => by
        subst e
        rw [hn5] at hD5'
        injection hD5' with h; cases h
      have hP6 := HP.out.fr F6
      have hib6 : Boxed W6 ib 3 (.int .i64 0) := boxed_fr HIB.out F6
      obtain ⟨Av, cv, hv⟩ := hP6.ref.form
      have c1 := hP6.c1
      have ck6 := hk6.cell
      have cn6 := hI6.2.cell
      have ci6 := hib6.cell
      rw [hv] at c1
      have e1 : ((L.length : Int) != (L.length : Int)) = false := by simp
      have hfin : Hid (∀ m, ∀ W', W' = (W6.drewN m).alloc (.cells #[.int .i64 1] 3) → Fr Nob W W' ∧ Boxed W' (W6.drewN m).heap.size 3 (.int .i64 1) ∧ W'.heap[W2.heap.size]? = some (.deferred (some [])) ∧ W'.heap[W5.heap.size]? = some (.deferred (some []))) := Lib.hid fun m W' e => by
        have hb : Below (W6.drewN m).heap.size (W6.drewN m) W' := by rw [e]; exact (Below.refl _ _).alloc (Nat.le_refl _) _
        have hD7' : (W6.drewN m).heap[W2.heap.size]? = some (.deferred (some [])) := hD7
        have hD6' : (W6.drewN m).heap[W5.heap.size]? = some (.deferred (some [])) := hD6
        refine ⟨(F6.drewN m).trans (Fr.of_below hb Nob) fun _ _ h => h, ?_, (hb.block _ (lt_of_heap hD7')).trans hD7', (hb.block _ (lt_of_heap hD6')).trans hD6'⟩
        rw [e]
        exact heap_alloc_eq _ _
      have g1 : W.heap.size ≤ W2.heap.size := by omega
      have g2 : W2.heap.size < W5.heap.size := by omega
      have g3 : W.heap.size ≤ W6.heap.size := by omega
      clear hrnd5 hCk5 hI5 hI6 hD6 hD5 hk5 hk6 hD7 hP6 hib6 hn5 hP5 hibB5 F5 F6 hlens htl HP HIB hD5'
      gi_step
      gi_wp2_with fail
      refine wpIn_wide.2 ?_
      go_quiet (fail)
      rename_i nq
      have ci7 : (W6.drewN nq).cell? ⟨ib, 0, none⟩ = some (.int .i64 0) := ci6
      have hfin7 := hfin.out nq
      have g4 : W.heap.size ≤ (W6.drewN nq).heap.size := g3
      clear hfin ci6 ck6 cn6 c1
      generalize W6.drewN nq = W7 at *
      replace hfin7 := Lib.hid hfin7
      gi_wp2
      exact HQ.out _ _ _ _ (hfin7.out _ rfl).1 (hfin7.out _ rfl).2.1 (hfin7.out _ rfl).2.2.1 (hfin7.out _ rfl).2.2.2 g1 g2 g4 _ _ _ _ _ _ _ _ _ _ _ _ _ _ _ _ _ _ _ _ _ _ _ _ _ _ _ _ _ _ _ _ _ _ _ _ _ _ _ _ _ _ _ _ _ _ _ _ _ _ _ _ _ _ _ _ _ _ _ _ _ _ _ _ _ _ _ _ _ _ _ _ _ _ _ _ _ _ _ _ _ _ _ _ _ _ _ _ _ _ _ _ _ _ _ _ _ _ _ _ _ _ _ _ _ _ _ _ _ _ _ _ _ _ _ _ _ _ _ _ _ _ _ _ _ _ _ _ _ _ _ _ _ _ _ _ _ _ _ _ _ _

set_option maxHeartbeats 4000000 in
set_option maxRecDepth 100000 in
theorem u3_1 (n : Nat) (Q : Exit → Act → World → Prop) (W : World) (pb ib t : Nat) (T : AT) (v : Value) (L : List RowT) (ks : List (List Int)) (hP : Pq AnyZ W pb 2 t T v L L ks) (hib : Boxed W ib 3 (.int .i64 1)) (hip : ib ≠ pb) (ds : List Nat) (y0 y1 y2 y4 y5 : Value)
    (hQ : ∀ W' ib' d1 d2, Fr Nob W W' → Boxed W' ib' 3 (.int .i64 2) → W'.heap[d1]? = some (.deferred (some [])) → W'.heap[d2]? = some (.deferred (some [])) → W.heap.size ≤ d1 → d1 < d2 → W.heap.size ≤ ib' → ∀ y6 y7 y9 y10 y11 y12 y13 y14 y15 y16 y17 y18 y19 y20 y21 y22 y23 y24 y25 y26 y27 y28 y29 y30 y31 y32 y33 y34 y35 y36 y37 y38 y39 y40 y41 y42 y43 y44 y45 y46 y47 y48 y49 y50 y51 y52 y53 y54 y55 y56 y57 y58 y59 y60 y61 y62 y63 y64 y65 y66 y67 y68 y69 y70 y71 y72 y73 y74 y75 y76 y77 y78 y79 y80 y81 y82 y83 y84 y85 y86 y87 y88 y89 y90 y91 y92 y93 y94 y95 y96 y97 y98 y99 y100 y101 y102 y103 y104 y105 y106 y107 y108 y109 y110 y111 y112 y113 y114 y115 y116 y117 y118 y119 y120 y121 y122 y123 y124 y125 y126 y127 y128 y129 y130 y131 y132 y133 y134 y135 y136 y137 y138 y139 y140 y141 y142 y143 y144 y145 y146 y147 y148, Q .normal (fT y0 y1 y2 (.pointer (some ⟨pb, 0, none⟩)) y4 y5 y6 y7 (.pointer (some ⟨ib', 0, none⟩)) y9 y10 y11 y12 y13 y14 y15 y16 y17 y18 y19 y20 y21 y22 y23 y24 y25 y26 y27 y28 y29 y30 y31 y32 y33 y34 y35 y36 y37 y38 y39 y40 y41 y42 y43 y44 y45 y46 y47 y48 y49 y50 y51 y52 y53 y54 y55 y56 y57 y58 y59 y60 y61 y62 y63 y64 y65 y66 y67 y68 y69 y70 y71 y72 y73 y74 y75 y76 y77 y78 y79 y80 y81 y82 y83 y84 y85 y86 y87 y88 y89 y90 y91 y92 y93 y94 y95 y96 y97 y98 y99 y100 y101 y102 y103 y104 y105 y106 y107 y108 y109 y110 y111 y112 y113 y114 y115 y116 y117 y118 y119 y120 y121 y122 y123 y124 y125 y126 y127 y128 y129 y130 y131 y132 y133 y134 y135 y136 y137 y138 y139 y140 y141 y142 y143 y144 y145 y146 y147 y148 (Dl (d2 :: d1 :: ds))) W') (y6 y7 y9 y10 y11 y12 y13 y14 y15 y16 y17 y18 y19 y20 y21 y22 y23 y24 y25 y26 y27 y28 y29 y30 y31 y32 y33 y34 y35 y36 y37 y38 y39 y40 y41 y42 y43 y44 y45 y46 y47 y48 y49 y50 y51 y52 y53 y54 y55 y56 y57 y58 y59 y60 y61 y62 y63 y64 y65 y66 y67 y68 y69 y70 y71 y72 y73 y74 y75 y76 y77 y78 y79 y80 y81 y82 y83 y84 y85 y86 y87 y88 y89 y90 y91 y92 y93 y94 y95 y96 y97 y98 y99 y100 y101 y102 y103 y104 y105 y106 y107 y108 y109 y110 y111 y112 y113 y114 y115 y116 y117 y118 y119 y120 y121 y122 y123 y124 y125 y126 y127 y128 y129 y130 y131 y132 y133 y134 y135 y136 y137 y138 y139 y140 y141 y142 y143 y144 y145 y146 y147 y148 : Value) :
    lp3.wpIn Fence.wide n Try.prog Q (fT y0 y1 y2 (.pointer (some ⟨pb, 0, none⟩)) y4 y5 y6 y7 (.pointer (some ⟨ib, 0, none⟩)) y9 y10 y11 y12 y13 y14 y15 y16 y17 y18 y19 y20 y21 y22 y23 y24 y25 y26 y27 y28 y29 y30 y31 y32 y33 y34 y35 y36 y37 y38 y39 y40 y41 y42 y43 y44 y45 y46 y47 y48 y49 y50 y51 y52 y53 y54 y55 y56 y57 y58 y59 y60 y61 y62 y63 y64 y65 y66 y67 y68 y69 y70 y71 y72 y73 y74 y75 y76 y77 y78 y79 y80 y81 y82 y83 y84 y85 y86 y87 y88 y89 y90 y91 y92 y93 y94 y95 y96 y97 y98 y99 y100 y101 y102 y103 y104 y105 y106 y107 y108 y109 y110 y111 y112 y113 y114 y115 y116 y117 y118 y119 y120 y121 y122 y123 y124 y125 y126 y127 y128 y129 y130 y131 y132 y133 y134 y135 y136 y137 y138 y139 y140 y141 y142 y143 y144 y145 y146 y147 y148 (Dl ds)) W := by
  have hlens := hP.tri.lens
  have hlen := hP.tri.len
  have hpbl := hP.lt
  have hibl := hib.lt
  have htl : ∀ j, T.own j → j < W.heap.size := fun j hj => hP.tri.rep.lt hj
  obtain ⟨W1, hW1⟩ : ∃ W1, W1 = W.alloc (.cells #[.int .i64 0] 3) := ⟨_, rfl⟩
  have hb1 : Below W.heap.size W W1 := by rw [hW1]; exact (Below.refl _ _).alloc (Nat.le_refl _) _
  have hk1 : Boxed W1 W.heap.size 3 (.int .i64 0) := by rw [hW1]; exact heap_alloc_eq _ _
  have hs1 : W1.heap.size = W.heap.size + 1 := by rw [hW1]; simp
  have hP1 := hP.new hb1
  have hall := Lib.hid (tri_all hP1.tri)
  have cib := hib.cell
  have cib1 := (boxed_new hib hb1).cell
  have ct1 := hP1.c0
  have F1 := Fr.of_below hb1 Nob
  have hib1 := Lib.hid (boxed_new hib hb1)
  rw [hW1] at cib1 ct1
  replace hW1 := Lib.hid hW1
  have HP := Lib.hid hP
  have HIB := Lib.hid hib
  have HQ := Lib.hid hQ
  replace F1 := Lib.hid F1
  replace hk1 := Lib.hid hk1
  replace hlens := Lib.hid hlens
  replace htl := Lib.hid htl
  obtain ⟨kb, hkb⟩ : ∃ kb, kb = W.heap.size := ⟨_, rfl⟩
  rw [← hkb] at hk1
  have hkb1 : W.heap.size ≤ kb ∧ kb ≤ W.heap.size ∧ kb + 1 ≤ W1.heap.size ∧ W1.heap.size ≤ kb + 1 := by omega
  replace hkb := Lib.hid hkb
  replace hs1 := Lib.hid hs1
  clear hP hib hb1 hP1 hQ
  unfold lp3 f3l fT
  dsimp only [Try.f3, bodyOf, sqF, sqS, cdT, cdE, bkB, lpB, rfB]
  gi_wp2_with fail
  rw [← hW1.out, ← hkb.out]
  refine callR hall.out ?_
  rintro e W2 ⟨br, bt, rv, tv, rvals, rfl, hC2, hb2⟩
  have F2 := F1.out.trans (Fr.of_below hb2 Nob) fun _ _ h => h
  have hs2 := hb2.size
  have hk2 : Boxed W2 kb 3 (.int .i64 ((0 : Nat) : Int)) := boxed_new hk1.out hb2
  have hI0 := Lib.hid (show IK W2 kb 0 W2 from ⟨Fr.refl _ _, hk2⟩)
  have hP2 := HP.out.fr F2
  have hibB2 : Boxed W2 ib 3 (.int .i64 1) := boxed_fr HIB.out F2
  have hrnd := Lib.hid (fun l k A cap x (hx : L[k]? = some x) W' hnow => rA1_i l (n - 1 - 1) W2 W' pb ib 0 kb k v L A cap x hibB2 hP2.c1 ⟨by omega, by omega⟩ hP2.ref hx (hlens.out x (List.mem_of_getElem? hx)) hlen (by omega) ⟨_, hk2⟩ hnow)
  have hCk := Lib.hid (fun k W (h : IK W2 kb k W) => hC2.frB h.1 (fun j e => .inl (by omega)) fun j e c ty f hc => by
    subst e
    rw [hk2] at hc
    injection hc with hc; injection hc with _ hc
    rw [← hc]; decide)
  clear hall F1 hC2 hb2
  gi_wp2_with fail
  refine wp_range_rows (B := W1.heap.size) (br := br) (bt := bt) (rv := rv) (tv := tv) (rvals := rvals) (res := outs L) rfl rfl (IK W2 kb) (fun _ _ => False) (fun k W h => hCk.out k W h) (outs_lens hlens.out) (by rw [outs_len]; omega) (fun k W1 W2 h hf => h.two (by omega) hf) (fun _ _ _ h _ => h) hI0.out ?hround1 ?hdone1 (fun _ _ h _ => h.elim)
  case hround1 =>
    rintro l k A cap p u W3 W4 hkv hnow
    obtain ⟨x, hx, rfl, rfl⟩ := outs_get hkv
    have hr := Lib.hid (hrnd.out l k A cap x hx W4 hnow)
    clear hnow hkv hx hrnd HQ
    gi_wp2
    refine ⟨trivial, ?_⟩
    refine wpIn_block ?_
    exact wpIn_mono (hr.out _ _ _ _ _ _ _ _ _ _ _ _ _ _ _ _ _ _ _ _ _ _ _ _ _ _ _ _ _ _ _ _ _ _ _ _ _ _ _ _ _ _ _ _ _ _ _ _ _ _ _ _ _ _ _ _ _ _ _ _ _ _ _ _ _ _ _ _ _ _ _ _ _ _ _ _ _ _ _ _ _ _ _ _ _ _ _ _ _ _ _ _ _ _ _ _ _ _ _ _ _ _ _ _ _ _ _ _ _ _ _ _ _ _ _ _ _ _ _ _ _ _ _ _ _ _ _ _ _ _ _ _ _ _ _ _ _ _ _ _ _ _ _ _ _) fun e a w h => rowPost_blockF h
  case hdone1 =>
    intro W3 hI3 hD3
    rw [outs_len] at hI3
    clear hrnd hCk hI0 hk2 hP2 hibB2
    have F3 : Fr Nob W W3 := F2.trans hI3.1 fun j hj e => by omega
    have hs3 := hI3.1.size
    obtain ⟨W4, hW4⟩ : ∃ W4, W4 = W3.alloc (.cells #[.int .i64 0] 3) := ⟨_, rfl⟩
    have hb4 : Below W3.heap.size W3 W4 := by rw [hW4]; exact (Below.refl _ _).alloc (Nat.le_refl _) _
    have hn4 : Boxed W4 W3.heap.size 3 (.int .i64 0) := by rw [hW4]; exact heap_alloc_eq _ _
    have hs4 : W4.heap.size = W3.heap.size + 1 := by rw [hW4]; simp
    have F4 := F3.trans (Fr.of_below hb4 Nob) fun _ _ h => h
    have hP4 := HP.out.fr F4
    have hbel : Hid (Calls Try.prog 13 #[ptr t, .slice none 0 0] W4 (BelowPost 43 64 3 48 W4 (outs L))) := Lib.hid (by
      have := tri_below hP4.tri none 0 [] (RdI.nil _ _) (fun _ => rfl) (by simp)
      rwa [belowR_nil] at this)
    have cib4 := (show Boxed W4 ib 3 (.int .i64 1) from boxed_fr HIB.out F4).cell
    have ct4 := hP4.c0
    rw [hW4] at cib4 ct4
    have hk4 := Lib.hid (boxed_new hI3.2 hb4)
    have hD4 := Lib.hid ((hb4.block _ (lt_of_heap hD3)).trans hD3)
    replace hW4 := Lib.hid hW4
    obtain ⟨nb, hnb⟩ : ∃ nb, nb = W3.heap.size := ⟨_, rfl⟩
    rw [← hnb] at hn4
    have hnb1 : W3.heap.size ≤ nb ∧ nb ≤ W3.heap.size ∧ nb + 1 ≤ W4.heap.size ∧ W4.heap.size ≤ nb + 1 := by omega
    replace hnb := Lib.hid hnb
    replace hs4 := Lib.hid hs4
    replace hn4 := Lib.hid hn4
    have HF4 := Lib.hid F4
    clear hI3 hD3 hb4 F3 F4 hP4 F2 hib1 hk1
    gi_step
    gi_wp2_with fail
    rw [← hW4.out, ← hnb.out]
    refine callR hbel.out ?_
    rintro e W5 ⟨br5, bt5, rv5, tv5, rvals5, rfl, hC5, hb5⟩
    have F5 := HF4.out.trans (Fr.of_below hb5 Nob) fun _ _ h => h
    have hs5 := hb5.size
    have hn5 : Boxed W5 nb 3 (.int .i64 ((0 : Nat) : Int)) := boxed_new hn4.out hb5
    have hk5 := Lib.hid (boxed_new hk4.out hb5)
    have hD5 := Lib.hid ((hb5.block _ (lt_of_heap hD4.out)).trans hD4.out)
    have hI5 := Lib.hid (show IK W5 nb 0 W5 from ⟨Fr.refl _ _, hn5⟩)
    have hP5 := HP.out.fr F5
    have hibB5 : Boxed W5 ib 3 (.int .i64 1) := boxed_fr HIB.out F5
    have hrnd5 := Lib.hid (fun l k A cap x (hx : L[k]? = some x) W' hnow => rB1_i l (n - 1 - 1) W5 W' pb ib 0 nb k v L A cap x hibB5 hP5.c1 ⟨by omega, by omega⟩ hP5.ref hx (hlens.out x (List.mem_of_getElem? hx)) hlen (by omega) ⟨_, hn5⟩ hnow)
    have hCk5 := Lib.hid (fun k W (h : IK W5 nb k W) => hC5.frB h.1 (fun j e => .inl (by omega)) fun j e c ty f hc => by
      subst e
      rw [hn5] at hc
      injection hc with hc; injection hc with _ hc
      rw [← hc]; decide)
    clear hbel HF4 hC5 hb5 hn4 hk4 hD4 hW4 cib4 ct4
    gi_wp2_with fail
    refine wp_range_rows (B := W4.heap.size) (br := br5) (bt := bt5) (rv := rv5) (tv := tv5) (rvals := rvals5) (res := outs L) rfl rfl (IK W5 nb) (fun _ _ => False) (fun k W h => hCk5.out k W h) (outs_lens hlens.out) (by rw [outs_len]; omega) (fun k W1 W2 h hf => h.two (by omega) hf) (fun _ _ _ h _ => h) hI5.out ?hround2 ?hdone2 (fun _ _ h _ => h.elim)
    case hround2 =>
      rintro l k A cap p u W6 W7 hkv hnow
      obtain ⟨x, hx, rfl, rfl⟩ := outs_get hkv
      have hr := Lib.hid (hrnd5.out l k A cap x hx W7 hnow)
      clear hnow hkv hx hrnd5 HQ
      gi_wp2
      refine ⟨trivial, ?_⟩
      refine wpIn_block ?_
      exact wpIn_mono (hr.out _ _ _ _ _ _ _ _ _ _ _ _ _ _ _ _ _ _ _ _ _ _ _ _ _ _ _ _ _ _ _ _ _ _ _ _ _ _ _ _ _ _ _ _ _ _ _ _ _ _ _ _ _ _ _ _ _ _ _ _ _ _ _ _ _ _ _ _ _ _ _ _ _ _ _ _ _ _ _ _ _ _ _ _ _ _ _ _ _ _ _ _ _ _ _ _ _ _ _ _ _ _ _ _ _ _ _ _ _ _ _ _ _ _ _ _ _ _ _ _ _ _ _ _ _ _ _ _ _ _ _ _ _ _ _ _ _ _ _ _ _ _ _ _ _) fun e a w h => rowPost_blockF h
    case hdone2 =>
      intro W6 hI6 hD6
      rw [outs_len] at hI6
      have F6 : Fr Nob W W6 := F5.trans hI6.1 fun j hj e => by omega
      have hs6 := hI6.1.size
      have hD5' := hD5.out
      have hD5l := lt_of_heap hD5'
      have hD6l := lt_of_heap hD6
      have hk6 : Boxed W6 kb 3 (.int .i64 (L.length : Int)) := hI6.1.heap hk5.out fun e => by omega
      have hD7 : W6.heap[W2.heap.size]? = some (.deferred (some [])) := hI6.1.heap hD5' fun e => by
        subst e
        rw [hn5] at hD5'
        injection hD5' with h; cases h
      have hP6 := HP.out.fr F6
      have hib6 : Boxed W6 ib 3 (.int .i64 1) := boxed_fr HIB.out F6
      obtain ⟨Av, cv, hv⟩ := hP6.ref.form
      have c1 := hP6.c1
      have ck6 := hk6.cell
      have cn6 := hI6.2.cell
      have ci6 := hib6.cell
      rw [hv] at c1
      have e1 : ((L.length : Int) != (L.length : Int)) = false := by simp
      have hfin : Hid (∀ m, ∀ W', W' = (W6.drewN m).alloc (.cells #[.int .i64 2] 3) → Fr Nob W W' ∧ Boxed W' (W6.drewN m).heap.size 3 (.int .i64 2) ∧ W'.heap[W2.heap.size]? = some (.deferred (some [])) ∧ W'.heap[W5.heap.size]? = some (.deferred (some []))) := Lib.hid fun m W' e => by
        have hb : Below (W6.drewN m).heap.size (W6.drewN m) W' := by rw [e]; exact (Below.refl _ _).alloc (Nat.le_refl _) _
        have hD7' : (W6.drewN m).heap[W2.heap.size]? = some (.deferred (some [])) := hD7
        have hD6' : (W6.drewN m).heap[W5.heap.size]? = some (.deferred (some [])) := hD6
        refine ⟨(F6.drewN m).trans (Fr.of_below hb Nob) fun _ _ h => h, ?_, (hb.block _ (lt_of_heap hD7')).trans hD7', (hb.block _ (lt_of_heap hD6')).trans hD6'⟩
        rw [e]
        exact heap_alloc_eq _ _
      have g1 : W.heap.size ≤ W2.heap.size := by omega
      have g2 : W2.heap.size < W5.heap.size := by omega
      have g3 : W.heap.size ≤ W6.heap.size := by omega
      clear hrnd5 hCk5 hI5 hI6 hD6 hD5 hk5 hk6 hD7 hP6 hib6 hn5 hP5 hibB5 F5 F6 hlens htl HP HIB hD5'
      gi_step
      gi_wp2_with fail
      refine wpIn_wide.2 ?_
      go_quiet (fail)
      rename_i nq
      have ci7 : (W6.drewN nq).cell? ⟨ib, 0, none⟩ = some (.int .i64 1) := ci6
      have hfin7 := hfin.out nq
      have g4 : W.heap.size ≤ (W6.drewN nq).heap.size := g3
      clear hfin ci6 ck6 cn6 c1
      generalize W6.drewN nq = W7 at *
      replace hfin7 := Lib.hid hfin7
      gi_wp2
      exact HQ.out _ _ _ _ (hfin7.out _ rfl).1 (hfin7.out _ rfl).2.1 (hfin7.out _ rfl).2.2.1 (hfin7.out _ rfl).2.2.2 g1 g2 g4 _ _ _ _ _ _ _ _ _ _ _ _ _ _ _ _ _ _ _ _ _ _ _ _ _ _ _ _ _ _ _ _ _ _ _ _ _ _ _ _ _ _ _ _ _ _ _ _ _ _ _ _ _ _ _ _ _ _ _ _ _ _ _ _ _ _ _ _ _ _ _ _ _ _ _ _ _ _ _ _ _ _ _ _ _ _ _ _ _ _ _ _ _ _ _ _ _ _ _ _ _ _ _ _ _ _ _ _ _ _ _ _ _ _ _ _ _ _ _ _ _ _ _ _ _ _ _ _ _ _ _ _ _ _ _ _ _ _ _ _ _ _

end Go.Proofs.Ytioflglfnalcaaa

/- TriePlays: behind its steps: printed by gen_pz.py. -/
namespace Go.Proofs.Ytioflglfnalcaaa
open Go.RowKit

attribute [local go_sem] Oper.semAt_some

set_option maxHeartbeats 1000000 in
set_option maxRecDepth 100000 in
theorem lp3_out (n : Nat) (Q : Exit → Act → World → Prop) (W : World) (pb ib : Nat) (hib : Boxed W ib 3 (.int .i64 2)) (ds : List Deferred) (y0 y1 y2 y4 y5 : Value)
    (hQ : ∀ y6 y7 y9 y10 y11 y12 y13 y14 y15 y16 y17 y18 y19 y20 y21 y22 y23 y24 y25 y26 y27 y28 y29 y30 y31 y32 y33 y34 y35 y36 y37 y38 y39 y40 y41 y42 y43 y44 y45 y46 y47 y48 y49 y50 y51 y52 y53 y54 y55 y56 y57 y58 y59 y60 y61 y62 y63 y64 y65 y66 y67 y68 y69 y70 y71 y72 y73 y74 y75 y76 y77 y78 y79 y80 y81 y82 y83 y84 y85 y86 y87 y88 y89 y90 y91 y92 y93 y94 y95 y96 y97 y98 y99 y100 y101 y102 y103 y104 y105 y106 y107 y108 y109 y110 y111 y112 y113 y114 y115 y116 y117 y118 y119 y120 y121 y122 y123 y124 y125 y126 y127 y128 y129 y130 y131 y132 y133 y134 y135 y136 y137 y138 y139 y140 y141 y142 y143 y144 y145 y146 y147 y148, Q (.exit 2) (fT y0 y1 y2 (.pointer (some ⟨pb, 0, none⟩)) y4 y5 y6 y7 (.pointer (some ⟨ib, 0, none⟩)) y9 y10 y11 y12 y13 y14 y15 y16 y17 y18 y19 y20 y21 y22 y23 y24 y25 y26 y27 y28 y29 y30 y31 y32 y33 y34 y35 y36 y37 y38 y39 y40 y41 y42 y43 y44 y45 y46 y47 y48 y49 y50 y51 y52 y53 y54 y55 y56 y57 y58 y59 y60 y61 y62 y63 y64 y65 y66 y67 y68 y69 y70 y71 y72 y73 y74 y75 y76 y77 y78 y79 y80 y81 y82 y83 y84 y85 y86 y87 y88 y89 y90 y91 y92 y93 y94 y95 y96 y97 y98 y99 y100 y101 y102 y103 y104 y105 y106 y107 y108 y109 y110 y111 y112 y113 y114 y115 y116 y117 y118 y119 y120 y121 y122 y123 y124 y125 y126 y127 y128 y129 y130 y131 y132 y133 y134 y135 y136 y137 y138 y139 y140 y141 y142 y143 y144 y145 y146 y147 y148 ds) W) (y6 y7 y9 y10 y11 y12 y13 y14 y15 y16 y17 y18 y19 y20 y21 y22 y23 y24 y25 y26 y27 y28 y29 y30 y31 y32 y33 y34 y35 y36 y37 y38 y39 y40 y41 y42 y43 y44 y45 y46 y47 y48 y49 y50 y51 y52 y53 y54 y55 y56 y57 y58 y59 y60 y61 y62 y63 y64 y65 y66 y67 y68 y69 y70 y71 y72 y73 y74 y75 y76 y77 y78 y79 y80 y81 y82 y83 y84 y85 y86 y87 y88 y89 y90 y91 y92 y93 y94 y95 y96 y97 y98 y99 y100 y101 y102 y103 y104 y105 y106 y107 y108 y109 y110 y111 y112 y113 y114 y115 y116 y117 y118 y119 y120 y121 y122 y123 y124 y125 y126 y127 y128 y129 y130 y131 y132 y133 y134 y135 y136 y137 y138 y139 y140 y141 y142 y143 y144 y145 y146 y147 y148 : Value) : lp3.wpIn Fence.wide n Try.prog Q (fT y0 y1 y2 (.pointer (some ⟨pb, 0, none⟩)) y4 y5 y6 y7 (.pointer (some ⟨ib, 0, none⟩)) y9 y10 y11 y12 y13 y14 y15 y16 y17 y18 y19 y20 y21 y22 y23 y24 y25 y26 y27 y28 y29 y30 y31 y32 y33 y34 y35 y36 y37 y38 y39 y40 y41 y42 y43 y44 y45 y46 y47 y48 y49 y50 y51 y52 y53 y54 y55 y56 y57 y58 y59 y60 y61 y62 y63 y64 y65 y66 y67 y68 y69 y70 y71 y72 y73 y74 y75 y76 y77 y78 y79 y80 y81 y82 y83 y84 y85 y86 y87 y88 y89 y90 y91 y92 y93 y94 y95 y96 y97 y98 y99 y100 y101 y102 y103 y104 y105 y106 y107 y108 y109 y110 y111 y112 y113 y114 y115 y116 y117 y118 y119 y120 y121 y122 y123 y124 y125 y126 y127 y128 y129 y130 y131 y132 y133 y134 y135 y136 y137 y138 y139 y140 y141 y142 y143 y144 y145 y146 y147 y148 ds) W := by
  have ci := hib.cell
  have HQ := Lib.hid hQ
  clear hQ hib
  unfold lp3 f3l fT
  dsimp only [Try.f3, bodyOf, sqF, sqS, cdT, cdE, bkB, lpB, rfB]
  gi_wp2
  exact HQ.out _ _ _ _ _ _ _ _ _ _ _ _ _ _ _ _ _ _ _ _ _ _ _ _ _ _ _ _ _ _ _ _ _ _ _ _ _ _ _ _ _ _ _ _ _ _ _ _ _ _ _ _ _ _ _ _ _ _ _ _ _ _ _ _ _ _ _ _ _ _ _ _ _ _ _ _ _ _ _ _ _ _ _ _ _ _ _ _ _ _ _ _ _ _ _ _ _ _ _ _ _ _ _ _ _ _ _ _ _ _ _ _ _ _ _ _ _ _ _ _ _ _ _ _ _ _ _ _ _ _ _ _ _ _ _ _ _ _ _ _ _ _

theorem l3_i (n : Nat) (Q : Exit → Act → World → Prop) (W : World) (pb ib t t2 : Nat) (T T2 : AT) (v v2 : Value) (L L2 : List RowT) (ks : List (List Int)) (hP : Pq AnyZ W pb 0 t T v L L ks) (hP2 : Pq AnyZ W pb 2 t2 T2 v2 L2 L2 ks) (hib : Boxed W ib 3 (.int .i64 0)) (hip : ib ≠ pb) (y0 y1 y2 y4 y5 : Value)
    (hQ : ∀ W' ib' ds, Fr Nob W W' → (∀ d ∈ ds, W'.heap[d]? = some (.deferred (some [])) ∧ W.heap.size ≤ d) → ds.Nodup → ∀ y6 y7 y9 y10 y11 y12 y13 y14 y15 y16 y17 y18 y19 y20 y21 y22 y23 y24 y25 y26 y27 y28 y29 y30 y31 y32 y33 y34 y35 y36 y37 y38 y39 y40 y41 y42 y43 y44 y45 y46 y47 y48 y49 y50 y51 y52 y53 y54 y55 y56 y57 y58 y59 y60 y61 y62 y63 y64 y65 y66 y67 y68 y69 y70 y71 y72 y73 y74 y75 y76 y77 y78 y79 y80 y81 y82 y83 y84 y85 y86 y87 y88 y89 y90 y91 y92 y93 y94 y95 y96 y97 y98 y99 y100 y101 y102 y103 y104 y105 y106 y107 y108 y109 y110 y111 y112 y113 y114 y115 y116 y117 y118 y119 y120 y121 y122 y123 y124 y125 y126 y127 y128 y129 y130 y131 y132 y133 y134 y135 y136 y137 y138 y139 y140 y141 y142 y143 y144 y145 y146 y147 y148, Q (.exit 2) (fT y0 y1 y2 (.pointer (some ⟨pb, 0, none⟩)) y4 y5 y6 y7 (.pointer (some ⟨ib', 0, none⟩)) y9 y10 y11 y12 y13 y14 y15 y16 y17 y18 y19 y20 y21 y22 y23 y24 y25 y26 y27 y28 y29 y30 y31 y32 y33 y34 y35 y36 y37 y38 y39 y40 y41 y42 y43 y44 y45 y46 y47 y48 y49 y50 y51 y52 y53 y54 y55 y56 y57 y58 y59 y60 y61 y62 y63 y64 y65 y66 y67 y68 y69 y70 y71 y72 y73 y74 y75 y76 y77 y78 y79 y80 y81 y82 y83 y84 y85 y86 y87 y88 y89 y90 y91 y92 y93 y94 y95 y96 y97 y98 y99 y100 y101 y102 y103 y104 y105 y106 y107 y108 y109 y110 y111 y112 y113 y114 y115 y116 y117 y118 y119 y120 y121 y122 y123 y124 y125 y126 y127 y128 y129 y130 y131 y132 y133 y134 y135 y136 y137 y138 y139 y140 y141 y142 y143 y144 y145 y146 y147 y148 (Dl ds)) W') (y6 y7 y9 y10 y11 y12 y13 y14 y15 y16 y17 y18 y19 y20 y21 y22 y23 y24 y25 y26 y27 y28 y29 y30 y31 y32 y33 y34 y35 y36 y37 y38 y39 y40 y41 y42 y43 y44 y45 y46 y47 y48 y49 y50 y51 y52 y53 y54 y55 y56 y57 y58 y59 y60 y61 y62 y63 y64 y65 y66 y67 y68 y69 y70 y71 y72 y73 y74 y75 y76 y77 y78 y79 y80 y81 y82 y83 y84 y85 y86 y87 y88 y89 y90 y91 y92 y93 y94 y95 y96 y97 y98 y99 y100 y101 y102 y103 y104 y105 y106 y107 y108 y109 y110 y111 y112 y113 y114 y115 y116 y117 y118 y119 y120 y121 y122 y123 y124 y125 y126 y127 y128 y129 y130 y131 y132 y133 y134 y135 y136 y137 y138 y139 y140 y141 y142 y143 y144 y145 y146 y147 y148 : Value) :
    (Code.loop lp3).wpIn Fence.wide n Try.prog Q (fT y0 y1 y2 (.pointer (some ⟨pb, 0, none⟩)) y4 y5 y6 y7 (.pointer (some ⟨ib, 0, none⟩)) y9 y10 y11 y12 y13 y14 y15 y16 y17 y18 y19 y20 y21 y22 y23 y24 y25 y26 y27 y28 y29 y30 y31 y32 y33 y34 y35 y36 y37 y38 y39 y40 y41 y42 y43 y44 y45 y46 y47 y48 y49 y50 y51 y52 y53 y54 y55 y56 y57 y58 y59 y60 y61 y62 y63 y64 y65 y66 y67 y68 y69 y70 y71 y72 y73 y74 y75 y76 y77 y78 y79 y80 y81 y82 y83 y84 y85 y86 y87 y88 y89 y90 y91 y92 y93 y94 y95 y96 y97 y98 y99 y100 y101 y102 y103 y104 y105 y106 y107 y108 y109 y110 y111 y112 y113 y114 y115 y116 y117 y118 y119 y120 y121 y122 y123 y124 y125 y126 y127 y128 y129 y130 y131 y132 y133 y134 y135 y136 y137 y138 y139 y140 y141 y142 y143 y144 y145 y146 y147 y148 (Dl [])) W := by
  refine wpIn_loop_rounds 3 ?_
  refine u3_0 n _ W pb ib t T v L ks hP hib hip [] y0 y1 y2 y4 y5 ?_ _ _ _ _ _ _ _ _ _ _ _ _ _ _ _ _ _ _ _ _ _ _ _ _ _ _ _ _ _ _ _ _ _ _ _ _ _ _ _ _ _ _ _ _ _ _ _ _ _ _ _ _ _ _ _ _ _ _ _ _ _ _ _ _ _ _ _ _ _ _ _ _ _ _ _ _ _ _ _ _ _ _ _ _ _ _ _ _ _ _ _ _ _ _ _ _ _ _ _ _ _ _ _ _ _ _ _ _ _ _ _ _ _ _ _ _ _ _ _ _ _ _ _ _ _ _ _ _ _ _ _ _ _ _ _ _ _ _ _ _ _ _
  intro W1 ib1 d1 d2 hF1 hib1 hd1 hd2 hl1 hl2 hl3 _ _ _ _ _ _ _ _ _ _ _ _ _ _ _ _ _ _ _ _ _ _ _ _ _ _ _ _ _ _ _ _ _ _ _ _ _ _ _ _ _ _ _ _ _ _ _ _ _ _ _ _ _ _ _ _ _ _ _ _ _ _ _ _ _ _ _ _ _ _ _ _ _ _ _ _ _ _ _ _ _ _ _ _ _ _ _ _ _ _ _ _ _ _ _ _ _ _ _ _ _ _ _ _ _ _ _ _ _ _ _ _ _ _ _ _ _ _ _ _ _ _ _ _ _ _ _ _ _ _ _ _ _ _ _ _ _ _ _ _ _ _
  refine u3_1 n _ W1 pb ib1 t2 T2 v2 L2 ks (hP2.fr hF1) hib1 (by have := hP.lt; omega) [d2, d1] y0 y1 y2 y4 y5 ?_ _ _ _ _ _ _ _ _ _ _ _ _ _ _ _ _ _ _ _ _ _ _ _ _ _ _ _ _ _ _ _ _ _ _ _ _ _ _ _ _ _ _ _ _ _ _ _ _ _ _ _ _ _ _ _ _ _ _ _ _ _ _ _ _ _ _ _ _ _ _ _ _ _ _ _ _ _ _ _ _ _ _ _ _ _ _ _ _ _ _ _ _ _ _ _ _ _ _ _ _ _ _ _ _ _ _ _ _ _ _ _ _ _ _ _ _ _ _ _ _ _ _ _ _ _ _ _ _ _ _ _ _ _ _ _ _ _ _ _ _ _ _
  intro W2 ib2 d3 d4 hF2 hib2 hd3 hd4 hl4 hl5 hl6 _ _ _ _ _ _ _ _ _ _ _ _ _ _ _ _ _ _ _ _ _ _ _ _ _ _ _ _ _ _ _ _ _ _ _ _ _ _ _ _ _ _ _ _ _ _ _ _ _ _ _ _ _ _ _ _ _ _ _ _ _ _ _ _ _ _ _ _ _ _ _ _ _ _ _ _ _ _ _ _ _ _ _ _ _ _ _ _ _ _ _ _ _ _ _ _ _ _ _ _ _ _ _ _ _ _ _ _ _ _ _ _ _ _ _ _ _ _ _ _ _ _ _ _ _ _ _ _ _ _ _ _ _ _ _ _ _ _ _ _ _ _
  refine lp3_out n _ W2 pb ib2 hib2 _ y0 y1 y2 y4 y5 ?_ _ _ _ _ _ _ _ _ _ _ _ _ _ _ _ _ _ _ _ _ _ _ _ _ _ _ _ _ _ _ _ _ _ _ _ _ _ _ _ _ _ _ _ _ _ _ _ _ _ _ _ _ _ _ _ _ _ _ _ _ _ _ _ _ _ _ _ _ _ _ _ _ _ _ _ _ _ _ _ _ _ _ _ _ _ _ _ _ _ _ _ _ _ _ _ _ _ _ _ _ _ _ _ _ _ _ _ _ _ _ _ _ _ _ _ _ _ _ _ _ _ _ _ _ _ _ _ _ _ _ _ _ _ _ _ _ _ _ _ _ _ _
  have e1 := hF2.heap hd1 fun h => h
  have e2 := hF2.heap hd2 fun h => h
  have g2 := lt_of_heap hd2
  have g1 := hF1.size
  refine hQ W2 ib2 [d4, d3, d2, d1] (hF1.trans hF2 fun _ _ h => h) (fun d hd => ?_) ?_
  · simp only [List.mem_cons, List.not_mem_nil, or_false] at hd
    rcases hd with rfl | rfl | rfl | rfl
    · exact ⟨hd4, by omega⟩
    · exact ⟨hd3, by omega⟩
    · exact ⟨e2, by omega⟩
    · exact ⟨e1, by omega⟩
  · simp only [List.nodup_cons, List.mem_cons, List.not_mem_nil, or_false, not_or, List.nodup_nil, and_true, not_false_eq_true]
    omega

theorem resultsT (ty : TypeId) {fn : Func} (hfn : fn.results = #[.cell 2 4]) {tmps : Array Value} {b0 : Nat} {W : World} (ht : tmps.getD 2 undef = .pointer (some ⟨b0, 0, none⟩)) (hW : W.cell? ⟨b0, 0, none⟩ = some (.bool true)) : (results fn tmps).run Try.prog W = .ok (.bool true) W := by
  have h4 := Try.underlying4
  have ht' : tmps[2]?.getD undef = .pointer (some ⟨b0, 0, none⟩) := by rw [← Array.getD_eq_getD_getElem?]; exact ht
  simp [results, hfn, ht', hW, go_sem]

/-- TriePlays, between two steps. -/
structure PT (w W : World) (pb rb thb t0 t1 : Nat) (T0 T1 : AT) (v0 v1 vth : Value) (L0 L1 Lh : List RowT) (ks : List (List Int)) (br bt : Nat) (rv tv : Value) (rvals : List Value) : Prop where
  bel : Below w.heap.size w W
  p0 : Pq AnyZ W pb 0 t0 T0 v0 L0 L0 ks
  p1 : Pq AnyZ W pb 2 t1 T1 v1 L1 L1 ks
  dis : ∀ j, T0.own j → ¬ T1.own j
  o0 : ∀ j, T0.own j → w.heap.size ≤ j
  o1 : ∀ j, T1.own j → w.heap.size ≤ j
  opb : w.heap.size ≤ pb
  coll : Coll 43 64 3 w.heap.size W br bt rv tv rvals ((outs Lh).map (·.2)) ((outs Lh).map (·.1))
  bth : Boxed W thb 25 vth
  rth : RefIs AnyZ W vth Lh
  lth : ∀ x ∈ Lh, x.1.length ≤ 35184372087808
  nth : Lh.length ≤ 2550000000000
  brb : Boxed W rb 4 (.bool false)
  rbl : w.heap.size ≤ rb
  thl : w.heap.size ≤ thb

set_option maxHeartbeats 4000000 in
set_option maxRecDepth 100000 in
theorem f3l_i (n : Nat) (w W : World) (pb rb thb t0 t1 : Nat) (T0 T1 : AT) (v0 v1 vth : Value) (L0 L1 Lh : List RowT) (ks : List (List Int)) (br bt : Nat) (rv tv : Value) (rvals : List Value) (h : PT w W pb rb thb t0 t1 T0 T1 v0 v1 vth L0 L1 Lh ks br bt rv tv rvals) (y0 y1 y6 y7 y8 y9 y10 y11 y12 y13 y14 y15 y16 y17 y18 y19 y20 y21 y22 y23 y24 y25 y26 y27 y28 y29 y30 y31 y32 y33 y34 y35 y36 y37 y38 y39 y40 y41 y42 y43 y44 y45 y46 y47 y48 y49 y50 y51 y52 y53 y54 y55 y56 y57 y58 y59 y60 y61 y62 y63 y64 y65 y66 y67 y68 y69 y70 y71 y72 y73 y74 y75 y76 y77 y78 y79 y80 y81 y82 y83 y84 y85 y86 y87 y88 y89 y90 y91 y92 y93 y94 y95 y96 y97 y98 y99 y100 y101 y102 y103 y104 y105 y106 y107 y108 y109 y110 y111 y112 y113 y114 y115 y116 y117 y118 y119 y120 y121 y122 y123 y124 y125 y126 y127 y128 y129 y130 y131 y132 y133 y134 y135 y136 y137 y138 y139 y140 y141 y142 y143 y144 y145 y146 y147 y148 : Value) :
    f3l.wpIn Fence.wide n Try.prog (bodyPostM Fence.wide n Try.prog Try.f3 (WorksP w)) (fT y0 y1 (.pointer (some ⟨rb, 0, none⟩)) (.pointer (some ⟨pb, 0, none⟩)) (.func (.func 48) #[] #[ptr br, ptr bt]) (.pointer (some ⟨thb, 0, none⟩)) y6 y7 y8 y9 y10 y11 y12 y13 y14 y15 y16 y17 y18 y19 y20 y21 y22 y23 y24 y25 y26 y27 y28 y29 y30 y31 y32 y33 y34 y35 y36 y37 y38 y39 y40 y41 y42 y43 y44 y45 y46 y47 y48 y49 y50 y51 y52 y53 y54 y55 y56 y57 y58 y59 y60 y61 y62 y63 y64 y65 y66 y67 y68 y69 y70 y71 y72 y73 y74 y75 y76 y77 y78 y79 y80 y81 y82 y83 y84 y85 y86 y87 y88 y89 y90 y91 y92 y93 y94 y95 y96 y97 y98 y99 y100 y101 y102 y103 y104 y105 y106 y107 y108 y109 y110 y111 y112 y113 y114 y115 y116 y117 y118 y119 y120 y121 y122 y123 y124 y125 y126 y127 y128 y129 y130 y131 y132 y133 y134 y135 y136 y137 y138 y139 y140 y141 y142 y143 y144 y145 y146 y147 y148 (Dl [])) W := by
  obtain ⟨W1, hW1⟩ : ∃ W1, W1 = W.alloc (.cells #[.int .i64 0] 3) := ⟨_, rfl⟩
  have hb1 : Below W.heap.size W W1 := by rw [hW1]; exact (Below.refl _ _).alloc (Nat.le_refl _) _
  have hi1 := Lib.hid (show Boxed W1 W.heap.size 3 (.int .i64 0) by rw [hW1]; exact heap_alloc_eq _ _)
  have F1 := Lib.hid (Fr.of_below hb1 Nob)
  have hpl := h.p0.lt
  have hws := h.bel.size
  have H := Lib.hid h
  replace hW1 := Lib.hid hW1
  obtain ⟨QQ, hQQ⟩ : ∃ QQ, QQ = bodyPostM Fence.wide n Try.prog Try.f3 (WorksP w) := ⟨_, rfl⟩
  rw [← hQQ]
  replace hQQ := Lib.hid hQQ
  clear h hb1
  unfold f3l fT
  dsimp only [Try.f3, bodyOf, sqF, sqS, cdT, cdE, bkB, lpB, rfB]
  gi_wp2_with fail
  rw [← hW1.out]
  refine l3_i n _ W1 pb W.heap.size t0 t1 T0 T1 v0 v1 L0 L1 ks (H.out.p0.fr F1.out) (H.out.p1.fr F1.out) hi1.out (by omega) _ _ _ _ _ ?_ _ _ _ _ _ _ _ _ _ _ _ _ _ _ _ _ _ _ _ _ _ _ _ _ _ _ _ _ _ _ _ _ _ _ _ _ _ _ _ _ _ _ _ _ _ _ _ _ _ _ _ _ _ _ _ _ _ _ _ _ _ _ _ _ _ _ _ _ _ _ _ _ _ _ _ _ _ _ _ _ _ _ _ _ _ _ _ _ _ _ _ _ _ _ _ _ _ _ _ _ _ _ _ _ _ _ _ _ _ _ _ _ _ _ _ _ _ _ _ _ _ _ _ _ _ _ _ _ _ _ _ _ _ _ _ _ _ _ _ _ _ _
  intro W2 ib2 ds hF2 hds hnd _ _ _ _ _ _ _ _ _ _ _ _ _ _ _ _ _ _ _ _ _ _ _ _ _ _ _ _ _ _ _ _ _ _ _ _ _ _ _ _ _ _ _ _ _ _ _ _ _ _ _ _ _ _ _ _ _ _ _ _ _ _ _ _ _ _ _ _ _ _ _ _ _ _ _ _ _ _ _ _ _ _ _ _ _ _ _ _ _ _ _ _ _ _ _ _ _ _ _ _ _ _ _ _ _ _ _ _ _ _ _ _ _ _ _ _ _ _ _ _ _ _ _ _ _ _ _ _ _ _ _ _ _ _ _ _ _ _ _ _ _ _
  have F2 := F1.out.trans hF2 fun _ _ h => h
  have hl1 := F1.out.size
  have hl2 := hF2.size
  obtain ⟨W3, hW3⟩ : ∃ W3, W3 = W2.alloc (.cells #[.int .i64 0] 3) := ⟨_, rfl⟩
  have hb3 : Below W2.heap.size W2 W3 := by rw [hW3]; exact (Below.refl _ _).alloc (Nat.le_refl _) _
  have hk3 : Boxed W3 W2.heap.size 3 (.int .i64 0) := by rw [hW3]; exact heap_alloc_eq _ _
  have hs3 : W3.heap.size = W2.heap.size + 1 := by rw [hW3]; simp
  have F3 := F2.trans (Fr.of_below hb3 Nob) fun _ _ h => h
  obtain ⟨kb, hkb⟩ : ∃ kb, kb = W2.heap.size := ⟨_, rfl⟩
  rw [← hkb] at hk3
  have hkb1 : W2.heap.size ≤ kb ∧ kb ≤ W2.heap.size ∧ kb + 1 ≤ W3.heap.size ∧ W3.heap.size ≤ kb + 1 := by omega
  have hk30 : Boxed W3 kb 3 (.int .i64 ((0 : Nat) : Int)) := hk3
  have hI3 := Lib.hid (show IK W3 kb 0 W3 from ⟨Fr.refl _ _, hk30⟩)
  have hth3 : Boxed W3 thb 25 vth := boxed_fr H.out.bth F3
  have hthl := H.out.bth.lt
  have hrth3 : RefIs AnyZ W3 vth Lh := H.out.rth.frame F3 fun _ _ _ _ h => h.elim
  have hrnd := Lib.hid (fun l k A cap x (hx : Lh[k]? = some x) W' hnow => rC_i l (n - 1 - 1) W3 W' 0 0 thb kb k vth Lh A cap x hth3 (by omega) hrth3 hx (H.out.lth x (List.mem_of_getElem? hx)) H.out.nth (by omega) ⟨_, hk3⟩ hnow)
  have hC3 : Coll 43 64 3 w.heap.size W2 br bt rv tv rvals ((outs Lh).map (·.2)) ((outs Lh).map (·.1)) := H.out.coll.frNob F2
  have hCk := Lib.hid (fun k W' (h : IK W3 kb k W') => hC3.frNob (((Fr.of_below hb3 Nob).trans h.1 fun j hj e => by omega)))
  have hds3 : ∀ d ∈ ds, W3.heap[d]? = some (.deferred (some [])) := fun d hd => (hb3.block d (lt_of_heap (hds d hd).1)).trans (hds d hd).1
  have hlth := Lib.hid H.out.lth
  have hnth := H.out.nth
  replace hW3 := Lib.hid hW3
  replace hkb := Lib.hid hkb
  replace hs3 := Lib.hid hs3
  replace F3 := Lib.hid F3
  replace hds3 := Lib.hid hds3
  have hdsl := Lib.hid fun d hd => (hds d hd).2
  replace hnd := Lib.hid hnd
  replace hk3 := Lib.hid hk3
  replace hk30 := Lib.hid hk30
  have hth3' := Lib.hid hth3
  clear hF2 hds hb3 F2 F1 hi1 hC3 hth3 hrth3 hW1
  unfold fT
  gi_wp2_with fail
  rw [← hW3.out, ← hkb.out]
  refine wp_range_rows (B := w.heap.size) (br := br) (bt := bt) (rv := rv) (tv := tv) (rvals := rvals) (res := outs Lh) rfl rfl (IK W3 kb) (fun _ _ => False) (fun k W h => hCk.out k W h) (outs_lens hlth.out) (by rw [outs_len]; omega) (fun k W1 W2 h hf => h.two (by omega) hf) (fun _ _ _ h _ => h) hI3.out ?hround1 ?hdone1 (fun _ _ h _ => h.elim)
  case hround1 =>
    rintro l k A cap p u W4 W5 hkv hnow
    obtain ⟨x, hx, rfl, rfl⟩ := outs_get hkv
    have hr := Lib.hid (hrnd.out l k A cap x hx W5 hnow)
    clear hnow hkv hx hrnd
    gi_wp2
    refine ⟨trivial, ?_⟩
    refine wpIn_block ?_
    exact wpIn_mono (hr.out _ _ _ _ _ _ _ _ _ _ _ _ _ _ _ _ _ _ _ _ _ _ _ _ _ _ _ _ _ _ _ _ _ _ _ _ _ _ _ _ _ _ _ _ _ _ _ _ _ _ _ _ _ _ _ _ _ _ _ _ _ _ _ _ _ _ _ _ _ _ _ _ _ _ _ _ _ _ _ _ _ _ _ _ _ _ _ _ _ _ _ _ _ _ _ _ _ _ _ _ _ _ _ _ _ _ _ _ _ _ _ _ _ _ _ _ _ _ _ _ _ _ _ _ _ _ _ _ _ _ _ _ _ _ _ _ _ _ _ _ _ _ _ _ _ _) fun e a w h => rowPost_blockF h
  case hdone1 =>
    intro W4 hI4 hD4
    rw [outs_len] at hI4
    have F4 : Fr Nob W W4 := F3.out.trans hI4.1 fun j hj e => by omega
    have hs4 := hI4.1.size
    have ck4 := hI4.2.cell
    have hth4 : Boxed W4 thb 25 vth := boxed_fr H.out.bth F4
    have hrb4 : Boxed W4 rb 4 (.bool false) := boxed_fr H.out.brb F4
    have hrth4 : RefIs AnyZ W4 vth Lh := H.out.rth.frame F4 fun _ _ _ _ h => h.elim
    have cth := hth4.cell
    have crb := hrb4.cell
    have frb := hrb4.frozen
    obtain ⟨Ah, ch, rfl⟩ := hrth4.form
    have hdd : ∀ d ∈ W3.heap.size :: ds, W4.heap[d]? = some (.deferred (some [])) ∧ W.heap.size ≤ d ∧ d ≠ rb := fun d hd => by
      have hne : ∀ d, W4.heap[d]? = some (.deferred (some [])) → d ≠ rb := fun d h e => by
        rw [e, hrb4] at h
        injection h with h; cases h
      rcases List.mem_cons.1 hd with rfl | hd
      · exact ⟨hD4, by omega, hne _ hD4⟩
      · have h1 := hds3.out d hd
        have h2 : W4.heap[d]? = some (.deferred (some [])) := hI4.1.heap h1 fun e => by
          rw [e, hk3.out] at h1
          injection h1 with h1; cases h1
        exact ⟨h2, by have := hdsl.out d hd; omega, hne _ h2⟩
    have hnd2 : (W3.heap.size :: ds).Nodup := List.nodup_cons.2 ⟨fun hm => by have := lt_of_heap (hds3.out _ hm); omega, hnd.out⟩
    have hbel : Below w.heap.size w W4 := H.out.bel.trans (F4.below hws fun _ h => h.elim)
    have hrbl := H.out.rbl
    have hfin : Hid (∀ tmps : Array Value, tmps.getD 2 undef = .pointer (some ⟨rb, 0, none⟩) → LeavesInM Fence.wide n Try.prog Try.f3 tmps (WorksP w) (Dl (W3.heap.size :: ds)) .returning (W4.setCell ⟨rb, 0, none⟩ (.bool true))) := Lib.hid fun tmps ht => by
      have hF5 : Fr (fun j => j = rb) W4 (W4.setCell ⟨rb, 0, none⟩ (.bool true)) := (Fr.refl (fun j => j = rb) W4).setCell (p := ⟨rb, 0, none⟩) (.inl rfl) _
      have hrb5 : Boxed (W4.setCell ⟨rb, 0, none⟩ (.bool true)) rb 4 (.bool true) := hrb4.set _
      refine leavesN n Try.f3 tmps _ _ _ (fun d hd => hF5.heap (hdd d hd).1 (hdd d hd).2.2) hnd2 ?_
      intro W6 hF6
      have hrb6 : Boxed W6 rb 4 (.bool true) := hF6.heap hrb5 fun e => (hdd _ e).2.2 rfl
      refine ⟨.bool true, resultsT 4 rfl ht hrb6.cell, rfl, ?_⟩
      exact (hbel.trans (hF5.below (by have := hbel.size; omega) fun j e => by omega)).trans (hF6.below (by have := hbel.size; have := hF5.size; omega) fun j e => by have := (hdd _ e).2.1; omega)
    have e1 : ((Lh.length : Int) == (Lh.length : Int)) = true := by simp
    clear hrnd hCk hI3 hI4 hD4 F4 hth4 hrb4 hrth4 hdd hnd2 hbel hlth H hds3 hk3 hk30 hth3'
    gi_step
    gi_wp2
    rw [hQQ.out]
    exact hfin.out _ rfl
end Go.Proofs.Ytioflglfnalcaaa

/- TriePlays: how its state goes on. -/
namespace Go.Proofs.Ytioflglfnalcaaa
open Go.RowKit

theorem Pq.other {Z : Nat → Prop} {T0 T T' : AT} {pb off off' t t0 : Nat} {w w' : World} {v v0 : Value} {L M L0 M0 : List RowT} {ks : List (List Int)} (h : Pq AnyZ w pb off' t T v L M ks) (h0 : Pq Z w pb off t0 T0 v0 L0 M0 ks) (hM : Mv T0 T' pb off w w') (hd : ∀ j, T.own j → ¬ T0.own j) (ho : off' ≠ off + 1 ∧ off' + 1 ≠ off + 1) : Pq AnyZ w' pb off' t T v L M ks := by
  obtain ⟨c, c', hc, hc', hcc⟩ := hM.pb
  have g0 := h.c0
  have g1 := h.c1
  simp only [World.cell?, hc] at g0 g1
  refine ⟨h.tri.frame hM.fr fun j hj e => ?_, h.ref.frame hM.fr fun j c ty f e hj ht => ?_, ?_, ?_, h.nown, ⟨c', hc'⟩, h.mks, h.mlen⟩
  · rcases e with e | e
    · exact hd j hj e
    · subst e; exact h.nown hj
  · rcases e with e | e
    · rcases h0.tri.ty e hj with h1 | h1 <;> rcases ht with h2 | h2 <;> (rw [h1] at h2; cases h2)
    · subst e
      rw [hc] at hj
      injection hj with hj; injection hj with _ hj
      rcases ht with h2 | h2 <;> (rw [← hj] at h2; cases h2)
  · simp only [World.cell?, hc', hcc off' ho.1]; exact g0
  · simp only [World.cell?, hc', hcc (off' + 1) ho.2]; exact g1

section
variable {w W W' : World} {pb rb thb t0 t1 : Nat} {T0 T1 T' : AT} {v0 v1 vth v' : Value} {L0 L1 Lh L' : List RowT} {ks : List (List Int)} {br bt : Nat} {rv tv : Value} {rvals : List Value}
theorem PT.fr (h : PT w W pb rb thb t0 t1 T0 T1 v0 v1 vth L0 L1 Lh ks br bt rv tv rvals) (k : Fr Nob W W') : PT w W' pb rb thb t0 t1 T0 T1 v0 v1 vth L0 L1 Lh ks br bt rv tv rvals :=
  { h with bel := h.bel.trans (k.below h.bel.size fun _ h => h.elim), p0 := h.p0.fr k, p1 := h.p1.fr k, coll := h.coll.frNob k, bth := boxed_fr h.bth k, rth := h.rth.frame k fun _ _ _ _ h => h.elim, brb := boxed_fr h.brb k }
theorem PT.nice0 (h : PT w W pb rb thb t0 t1 T0 T1 v0 v1 vth L0 L1 Lh ks br bt rv tv rvals) : Nice w.heap.size W (fun j => T0.own j ∨ j = pb) := fun j hj => by
  rcases hj with hj | hj
  · exact nice_own h.p0.tri h.o0 j hj
  · obtain ⟨c, hc⟩ := h.p0.ty
    exact nice_pb hc h.opb j hj
theorem PT.nice1 (h : PT w W pb rb thb t0 t1 T0 T1 v0 v1 vth L0 L1 Lh ks br bt rv tv rvals) : Nice w.heap.size W (fun j => T1.own j ∨ j = pb) := fun j hj => by
  rcases hj with hj | hj
  · exact nice_own h.p1.tri h.o1 j hj
  · obtain ⟨c, hc⟩ := h.p1.ty
    exact nice_pb hc h.opb j hj
theorem nice_ref {B0 : Nat} {S : Nat → Prop} {v : Value} {L : List RowT} (h : RefIs AnyZ W v L) (k : Fr S W W') (hs : Nice B0 W S) : RefIs AnyZ W' v L := h.frame k fun j c t f hS hj e => by
  rcases (hs j hS).2 _ _ _ hj with e' | e' | e' | e' <;> subst e' <;> rcases e with e | e <;> cases e
theorem PT.step0 (h : PT w W pb rb thb t0 t1 T0 T1 v0 v1 vth L0 L1 Lh ks br bt rv tv rvals) (hM : Mv T0 T' pb 0 W W') (hP : Pq AnyZ W' pb 0 t0 T' v' L' L' ks) : PT w W' pb rb thb t0 t1 T' T1 v' v1 vth L' L1 Lh ks br bt rv tv rvals := by
  have hN := h.nice0
  have hlt := h.p1.tri.rep
  exact { bel := h.bel.trans (hM.fr.below h.bel.size fun j hj => (hN j hj).1), p0 := hP, p1 := h.p1.other h.p0 hM (fun j h1 h2 => h.dis j h2 h1) (by omega),
          dis := fun j hj h2 => by
            rcases hM.grow j hj with h3 | h3
            · exact h.dis j h3 h2
            · have := hlt.lt h2; omega
          o0 := fun j hj => by
            rcases hM.grow j hj with h3 | h3
            · exact h.o0 j h3
            · have := h.bel.size; omega
          o1 := h.o1, opb := h.opb, coll := h.coll.nice hM.fr hN, bth := hM.fr.heap h.bth (hN.box h.bth (by decide)), rth := nice_ref h.rth hM.fr hN, lth := h.lth, nth := h.nth, brb := hM.fr.heap h.brb (hN.box h.brb (by decide)), rbl := h.rbl, thl := h.thl }
theorem PT.step1 (h : PT w W pb rb thb t0 t1 T0 T1 v0 v1 vth L0 L1 Lh ks br bt rv tv rvals) (hM : Mv T1 T' pb 2 W W') (hP : Pq AnyZ W' pb 2 t1 T' v' L' L' ks) : PT w W' pb rb thb t0 t1 T0 T' v0 v' vth L0 L' Lh ks br bt rv tv rvals := by
  have hN := h.nice1
  have hlt := h.p0.tri.rep
  exact { bel := h.bel.trans (hM.fr.below h.bel.size fun j hj => (hN j hj).1), p1 := hP, p0 := h.p0.other h.p1 hM (fun j h1 h2 => h.dis j h1 h2) (by omega),
          dis := fun j hj h2 => by
            rcases hM.grow j h2 with h3 | h3
            · exact h.dis j hj h3
            · have := hlt.lt hj; omega
          o1 := fun j hj => by
            rcases hM.grow j hj with h3 | h3
            · exact h.o1 j h3
            · have := h.bel.size; omega
          o0 := h.o0, opb := h.opb, coll := h.coll.nice hM.fr hN, bth := hM.fr.heap h.bth (hN.box h.bth (by decide)), rth := nice_ref h.rth hM.fr hN, lth := h.lth, nth := h.nth, brb := hM.fr.heap h.brb (hN.box h.brb (by decide)), rbl := h.rbl, thl := h.thl }
/-- An iterator is held, and the document's rows with it. -/
theorem PT.hold (h : PT w W pb rb thb t0 t1 T0 T1 v0 v1 vth L0 L1 Lh ks br bt rv tv rvals) {br' bt' : Nat} {rv' tv' : Value} {rvals' : List Value} {off t : Nat} {T : AT} {v : Value} {L : List RowT} (hq : Pq AnyZ W pb off t T v L L ks)
    (hc : Coll 43 64 3 w.heap.size W br' bt' rv' tv' rvals' ((outs L).map (·.2)) ((outs L).map (·.1))) : PT w (W.setCell ⟨thb, 0, none⟩ v) pb rb thb t0 t1 T0 T1 v0 v1 v L0 L1 L ks br' bt' rv' tv' rvals' := by
  have hF : Fr (fun j => j = thb) W (W.setCell ⟨thb, 0, none⟩ v) := (Fr.refl (fun j => j = thb) W).setCell (p := ⟨thb, 0, none⟩) (.inl rfl) _
  have hty : ∀ c t f, W.heap[thb]? = some (.cells c t f) → t = 25 := fun c t f hc => by rw [h.bth] at hc; injection hc with hc; injection hc with _ hc; exact hc.symm
  have hP : ∀ {off t : Nat} {T : AT} {u : Value} {L : List RowT}, Pq AnyZ W pb off t T u L L ks → Pq AnyZ (W.setCell ⟨thb, 0, none⟩ v) pb off t T u L L ks := fun hp => hp.frame hF (fun j hj e => by
      subst e
      rcases hp.tri.ty hj h.bth with e | e <;> cases e) (fun e => by
      obtain ⟨c, hc⟩ := hp.ty
      rw [e] at hc
      have := hty _ _ _ hc
      cases this) fun j c ty f e hj ht _ => by
      subst e
      have := hty _ _ _ hj
      subst this
      rcases ht with h | h <;> cases h
  have hR : ∀ {u : Value} {L : List RowT}, RefIs AnyZ W u L → RefIs AnyZ (W.setCell ⟨thb, 0, none⟩ v) u L := fun hr => hr.frame hF fun j c ty f e hj ht _ => by
    subst e
    have := hty _ _ _ hj
    subst this
    rcases ht with h | h <;> cases h
  have hrt : ¬ rb = thb := fun e => by
    have := h.brb
    rw [e] at this
    have := hty _ _ _ this
    cases this
  exact { bel := h.bel.trans (hF.below h.bel.size fun j e => by have := h.thl; omega), p0 := hP h.p0, p1 := hP h.p1, dis := h.dis, o0 := h.o0, o1 := h.o1, opb := h.opb,
          coll := hc.frT hF fun j e c t f hj => by subst e; rw [hty _ _ _ hj]; decide
          bth := h.bth.set _, rth := hR hq.ref, lth := hq.tri.lens, nth := hq.tri.len, brb := hF.heap h.brb hrt, rbl := h.rbl, thl := h.thl }
end

theorem bits_and_one (x : Int) : Go.bits BinOp.and IntKind.i64 x 1 = 0 ∨ Go.bits BinOp.and IntKind.i64 x 1 = 1 := by
  have h : ∀ a : BitVec 64, (a &&& BitVec.ofInt 64 1).toNat = 0 ∨ (a &&& BitVec.ofInt 64 1).toNat = 1 := fun a => by
    rw [BitVec.toNat_and]
    have : (BitVec.ofInt 64 1).toNat = 1 := by decide
    rw [this, Nat.and_one_is_mod]
    omega
  have e : Go.bits BinOp.and IntKind.i64 x 1 = IntKind.i64.wrap ((BitVec.ofInt 64 x &&& BitVec.ofInt 64 1).toNat) := rfl
  rcases h (BitVec.ofInt 64 x) with h | h
  · left; rw [e, h]; decide
  · right; rw [e, h]; decide
end Go.Proofs.Ytioflglfnalcaaa

/- TriePlays: the walk: printed by gen_qb.py. -/
namespace Go.Proofs.Ytioflglfnalcaaa
open Go.RowKit

attribute [local go_sem] Oper.semAt_some

structure StepT where
  dov : Int
  who : Int
  key : List Int
  val : Int
  nv : Int

/-- A slice that reads as steps. -/
def RdSteps (W : World) (Av : Option Addr) (ss : List StepT) : Prop := ∀ i s, ss[i]? = some s → ∃ b off Ak ck, Av = some ⟨b, off, none⟩ ∧ W.cell? ⟨b, off + i * 5, none⟩ = some (.int .i64 s.dov) ∧ W.cell? ⟨b, off + i * 5 + 1, none⟩ = some (.int .i64 s.who) ∧ W.cell? ⟨b, off + i * 5 + 2, none⟩ = some (.slice Ak s.key.length ck) ∧
  W.cell? ⟨b, off + i * 5 + 3, none⟩ = some (.int .i64 s.val) ∧ W.cell? ⟨b, off + i * 5 + 4, none⟩ = some (.int .i64 s.nv) ∧ RdI W Ak s.key ∧ (Ak = none → ck = 0) ∧ s.key.length ≤ ck ∧ s.key.length ≤ 35184372087808

/-- The pairs, so many steps being over. -/
def PSt (w : World) (pb rb thb t0 t1 : Nat) (ks : List (List Int)) (held : Value) (W : World) : Prop :=
  ∃ T0 T1 v0 v1 vth L0 L1 Lh br bt rv tv rvals, held = .func (.func 48) #[] #[ptr br, ptr bt] ∧ PT w W pb rb thb t0 t1 T0 T1 v0 v1 vth L0 L1 Lh ks br bt rv tv rvals

set_option maxHeartbeats 8000000 in
set_option maxRecDepth 100000 in
theorem plays_law (n : Nat) (w : World) (Av : Option Addr) (cap : Nat) (ss : List StepT) (hr : RdSteps w Av ss) (hn : ss.length ≤ 2550000000000) : CallsIn Fence.wide n Try.prog 3 #[.slice Av ss.length cap] w (WorksP w) := by
  have hE := run_eql_funcs48_nil
  obtain ⟨ks, hks⟩ : ∃ ks, ks = ss.map (·.key) := ⟨_, rfl⟩
  have hks1 : Hid (∀ q ∈ ks, q.length ≤ 35184372087808) := Lib.hid fun q hq => by
    rw [hks] at hq
    obtain ⟨s, hs, rfl⟩ := List.mem_map.1 hq
    obtain ⟨i, hi⟩ := List.mem_iff_getElem?.1 hs
    obtain ⟨_, _, _, _, _, _, _, _, _, _, _, _, _, h⟩ := hr i s hi
    exact h
  have hks2 : ks.length ≤ 2550000000000 := by rw [hks]; simpa using hn
  have hksm : Hid (∀ (i : Nat) (s : StepT), ss[i]? = some s → s.key ∈ ks) := Lib.hid fun i s h => by rw [hks]; exact List.mem_map.2 ⟨s, List.mem_of_getElem? h, rfl⟩
  replace hks := Lib.hid hks
  have Hr := Lib.hid hr
  obtain ⟨w0, hw0⟩ : ∃ w0, w0 = w.alloc (.cells #[.bool false] 4) := ⟨_, rfl⟩
  have hb0 : Below w.heap.size w w0 := by rw [hw0]; exact (Below.refl _ _).alloc (Nat.le_refl _) _
  have br0 := Lib.hid (show Boxed w0 w.heap.size 4 (.bool false) by rw [hw0]; exact heap_alloc_eq _ _)
  have hz0 : w0.heap.size = w.heap.size + 1 := by rw [hw0]; simp
  replace hw0 := Lib.hid hw0
  replace hb0 := Lib.hid hb0
  replace hz0 := Lib.hid hz0
  clear hr
  refine callsIn_of_wp_marks Try.func3 rfl trivial ?_ rfl
  simp only [Try.ntmps3, List.size_toArray, List.length_cons, List.length_nil, Nat.reduceAdd, Nat.reduceSub, Array.replicate_succ, Array.replicate_zero, List.push_toArray, List.append_toArray, List.nil_append, List.cons_append]
  obtain ⟨QQ, hQQ⟩ : ∃ QQ, QQ = bodyPostM Fence.wide n Try.prog Try.f3 (WorksP w) := ⟨_, rfl⟩
  rw [← hQQ]
  replace hQQ := Lib.hid hQQ
  gi_wp2_with fail
  rw [← hw0.out]
  refine callR (works_i w0) ?_
  rintro e w1 ⟨rfl, hb1⟩
  obtain ⟨w2, hw2⟩ : ∃ w2, w2 = w1.alloc (.cells #[.pointer none, .slice none 0 0, .pointer none, .slice none 0 0] 30) := ⟨_, rfl⟩
  have hb2 : Below w1.heap.size w1 w2 := by rw [hw2]; exact (Below.refl _ _).alloc (Nat.le_refl _) _
  have hp2 : w2.heap[w1.heap.size]? = some (.cells #[.pointer none, .slice none 0 0, .pointer none, .slice none 0 0] 30 (0, 0)) := by rw [hw2]; exact heap_alloc_eq _ _
  have hz2 : w2.heap.size = w1.heap.size + 1 := by rw [hw2]; simp
  replace hw2 := Lib.hid hw2
  gi_wp2_with fail
  rw [← hw2.out]
  refine callR (tri_new w2 ks hks1.out hks2) ?_
  rintro e w3 ⟨t0, T0, rfl, hT0, ho0, hb3⟩
  obtain ⟨pb, hpb⟩ : ∃ pb, pb = w1.heap.size := ⟨_, rfl⟩
  rw [← hpb] at hp2
  have hp3 := (hb3.block pb (lt_of_heap hp2)).trans hp2
  obtain ⟨w4, hw4⟩ : ∃ w4, w4 = w3.setCell ⟨pb, 0, none⟩ (ptr t0) := ⟨_, rfl⟩
  have hp4 : w4.heap[pb]? = some (.cells #[ptr t0, .slice none 0 0, .pointer none, .slice none 0 0] 30 (0, 0)) := by
    rw [hw4]; exact heap_set_same (o := 0) (ptr t0) hp3
  have F4 : Fr (fun j => j = pb) w3 w4 := by rw [hw4]; exact (Fr.refl (fun j => j = pb) w3).setCell (p := ⟨pb, 0, none⟩) (.inl rfl) _
  have hpl2 := lt_of_heap hp2
  have hT04 := hT0.frame F4 fun j hj e => by have := (ho0 j hj).1; omega
  have c3 := cell_of_row w3 pb 0 _ _ _ hp3
  have f3 := frozen_of_row w3 pb 0 _ 30 hp3
  have hzz : w1.heap.size ≤ pb ∧ pb ≤ w1.heap.size := by omega
  have hs3 := hb3.size
  have hs4 := F4.size
  have hs1 := hb1.size
  replace hw4 := Lib.hid hw4
  replace hpb := Lib.hid hpb
  replace hz2 := Lib.hid hz2
  rw [← hpb.out]
  have hnew := Lib.hid (tri_new w4 ks hks1.out hks2)
  clear hp3
  gi_wp2_with fail
  rw [← hw4.out]
  refine callR hnew.out ?_
  rintro e w5 ⟨t1, T1, rfl, hT1, ho1, hb5⟩
  have hp5 := (hb5.block pb (lt_of_heap hp4)).trans hp4
  obtain ⟨w6, hw6⟩ : ∃ w6, w6 = w5.setCell ⟨pb, 2, none⟩ (ptr t1) := ⟨_, rfl⟩
  have hp6 : w6.heap[pb]? = some (.cells #[ptr t0, .slice none 0 0, ptr t1, .slice none 0 0] 30 (0, 0)) := by
    rw [hw6]; exact heap_set_same (o := 2) (ptr t1) hp5
  have F6 : Fr (fun j => j = pb) w5 w6 := by rw [hw6]; exact (Fr.refl (fun j => j = pb) w5).setCell (p := ⟨pb, 2, none⟩) (.inl rfl) _
  have hT06 := (hT04.new hb5).frame F6 fun j hj e => by have := (ho0 j hj).1; omega
  have hT16 := hT1.frame F6 fun j hj e => by have := (ho1 j hj).1; have := lt_of_heap hp4; omega
  have c5 := cell_of_row w5 pb 2 _ _ _ hp5
  have f5 := frozen_of_row w5 pb 2 _ 30 hp5
  have c60 : w6.cell? ⟨pb, 0, none⟩ = some (ptr t0) := cell_of_row w6 pb 0 _ _ _ hp6
  have c62 : w6.cell? ⟨pb, 2, none⟩ = some (ptr t1) := cell_of_row w6 pb 2 _ _ _ hp6
  have hP0 : Pq AnyZ w6 pb 0 t0 T0 (.slice none 0 0) [] [] ks := ⟨hT06, RefIs.nil _ _, c60, cell_of_row w6 pb 1 _ _ _ hp6, fun ho => by have := (ho0 _ ho).1; omega, ⟨_, hp6⟩, by simp, by simp⟩
  have hP1 : Pq AnyZ w6 pb 2 t1 T1 (.slice none 0 0) [] [] ks := ⟨hT16, RefIs.nil _ _, c62, cell_of_row w6 pb 3 _ _ _ hp6, fun ho => by have := (ho1 _ ho).1; have := lt_of_heap hp4; omega, ⟨_, hp6⟩, by simp, by simp⟩
  have hall := Lib.hid (tri_all hT06)
  have hbel6 : Below w.heap.size w w6 := by
    have h1 : Below w.heap.size w w1 := hb0.out.trans (hb1.mono (by have := hz0.out; omega))
    have hz1 := hz0.out
    exact ((((h1.trans (hb2.mono (by omega))).trans (hb3.mono (by omega))).trans (F4.below (by omega) fun j e => by omega)).trans (hb5.mono (by omega))).trans (F6.below (by have := hb5.size; omega) fun j e => by omega)
  have hrb6 : Boxed w6 w.heap.size 4 (.bool false) := by
    have hz1 := hz0.out
    have hz2' := hz2.out
    have e1 := (hb1.block _ (lt_of_heap br0.out)).trans br0.out
    have e2 := (hb2.block _ (lt_of_heap e1)).trans e1
    have e3 := (hb3.block _ (lt_of_heap e2)).trans e2
    have e4 := F4.heap e3 (fun e => by omega)
    have e5 := (hb5.block _ (lt_of_heap e4)).trans e4
    exact F6.heap e5 fun e => by omega
  have hdis : ∀ j, T0.own j → ¬ T1.own j := fun j h0 h1 => by have := (ho0 j h0).2; have := (ho1 j h1).1; omega
  have hown0 : ∀ j, T0.own j → w.heap.size ≤ j := fun j h0 => by have := (ho0 j h0).1; have := hz0.out; omega
  have hown1 : ∀ j, T1.own j → w.heap.size ≤ j := fun j h0 => by have := (ho1 j h0).1; have := hz0.out; omega
  have hopb : w.heap.size ≤ pb := by have := hz0.out; omega
  have c60E := c60
  have c62E := c62
  rw [hw6] at c60E c62E
  replace hw6 := Lib.hid hw6
  replace hP0 := Lib.hid hP0
  replace hP1 := Lib.hid hP1
  replace hbel6 := Lib.hid hbel6
  replace hrb6 := Lib.hid hrb6
  replace hdis := Lib.hid hdis
  replace hown0 := Lib.hid hown0
  replace hown1 := Lib.hid hown1
  have hws : w.heap.size ≤ w6.heap.size := hbel6.out.size
  clear hp2 hp4 hp5 hp6 F4 F6 hT04 hT06 hT1 hT16 hT0 ho0 ho1 hb1 hb2 hb3 hb5 c3 f3 hnew hw2 hw4
  gi_wp2_with fail
  rw [← hw6.out]
  refine callR hall.out ?_
  rintro e w7 ⟨br, bt, rv, tv, rvals, rfl, hC7, hb7⟩
  obtain ⟨w8, hw8⟩ : ∃ w8, w8 = w7.alloc (.cells #[.slice none 0 0] 25) := ⟨_, rfl⟩
  have hb8 : Below w7.heap.size w7 w8 := by rw [hw8]; exact (Below.refl _ _).alloc (Nat.le_refl _) _
  have hth8 : Boxed w8 w7.heap.size 25 (.slice none 0 0) := by rw [hw8]; exact heap_alloc_eq _ _
  have F8 : Fr Nob w6 w8 := (Fr.of_below hb7 Nob).trans (Fr.of_below hb8 Nob) fun _ _ h => h
  have hs7 := hb7.size
  have hPT : PT w w8 pb w.heap.size w7.heap.size t0 t1 T0 T1 (.slice none 0 0) (.slice none 0 0) (.slice none 0 0) [] [] [] ks br bt rv tv rvals :=
    { bel := hbel6.out.trans (F8.below hws fun _ h => h.elim), p0 := hP0.out.fr F8, p1 := hP1.out.fr F8, dis := hdis.out, o0 := hown0.out, o1 := hown1.out, opb := hopb,
      coll := (hC7.monoB hws).frNob (Fr.of_below hb8 Nob), bth := hth8, rth := RefIs.nil _ _, lth := by simp, nth := by simp, brb := boxed_fr hrb6.out F8, rbl := Nat.le_refl _, thl := by omega }
  have hPS := Lib.hid (show PSt w pb w.heap.size w7.heap.size t0 t1 ks (.func (.func 48) #[] #[ptr br, ptr bt]) w8 from ⟨_, _, _, _, _, _, _, _, _, _, _, _, _, rfl, hPT⟩)
  replace hw8 := Lib.hid hw8
  clear hall hC7 hb7 hb8 hth8 F8 hPT hP0 hP1 hbel6 hrb6 hdis hown0 hown1 c60 c62 c60E c62E hw6
  gi_wp2_with fail
  rw [← hw8.out]
  generalize w7.heap.size = thb at *
  gi_loopw [4, 6] (fun hv i wr => ∃ k : Nat, k ≤ ss.length ∧ i = .int .i64 k ∧ Hid (PSt w pb w.heap.size thb t0 t1 ks hv wr)) (fun _ i _ => ss.length - (intOf i).toNat)
  case atStart => exact ⟨0, Nat.zero_le _, rfl, hPS⟩
  case round =>
    obtain ⟨k, hk, rfl, hrel⟩ := hrel
    obtain ⟨T0, T1, v0, v1, vth, L0, L1, Lh, br', bt', rv', tv', rvals', rfl, hPT⟩ := hrel.out
    clear hrel hPS
    by_cases hlt : k < ss.length
    · obtain ⟨s, hs⟩ : ∃ s, ss[k]? = some s := ⟨ss[k], by simp [hlt]⟩
      obtain ⟨b, off, Ak, ck, rfl, q0, q1, q2, q3, q4, hrk, hkn, hkc, hkl⟩ := Hr.out k s hs
      have hkey := hksm.out k s hs
      have hbb := hPT.bel
      have m0 := (hbb.cell (p := ⟨b, off + k * 5, none⟩) (cell_lt q0)).trans q0
      have m1 := (hbb.cell (p := ⟨b, off + k * 5 + 1, none⟩) (cell_lt q1)).trans q1
      have m2 := (hbb.cell (p := ⟨b, off + k * 5 + 2, none⟩) (cell_lt q2)).trans q2
      have m3 := (hbb.cell (p := ⟨b, off + k * 5 + 3, none⟩) (cell_lt q3)).trans q3
      have m4 := (hbb.cell (p := ⟨b, off + k * 5 + 4, none⟩) (cell_lt q4)).trans q4
      have hlk : ∀ ad, Ak = some ad → s.key ≠ [] → ad.block < w.heap.size := fun ad e hne => rdI_lt hrk ad e hne
      have hsz := hbb.size
      have hk1 : (0 : Int) ≤ (k : Int) := by omega
      have hk2 : (k : Int) < (ss.length : Int) := by omega
      obtain ⟨dov, who, key, val, nv⟩ := s
      simp only at q0 q1 q2 q3 q4 hrk hkn hkc hkl hkey m0 m1 m2 m3 m4 hlk
      have hrk' := Lib.hid hrk
      have hkn' := Lib.hid hkn
      have hlk' := Lib.hid hlk
      have HPT := Lib.hid hPT
      have cp0 := hPT.p0.c0
      have cp1 := hPT.p0.c1
      have cp2 := hPT.p1.c0
      have cp3 := hPT.p1.c1
      have cth := hPT.bth.cell
      have fth := hPT.bth.frozen
      obtain ⟨A0, c0, e0⟩ := hPT.p0.ref.form
      obtain ⟨A1, c1, e1⟩ := hPT.p1.ref.form
      have hall0 := Lib.hid (tri_all hPT.p0.tri)
      have hall1 := Lib.hid (tri_all hPT.p1.tri)
      have hst0 : Hid (∀ W vth Lh br bt rv tv rvals, PT w W pb w.heap.size thb t0 t1 T0 T1 v0 v1 vth L0 L1 Lh ks br bt rv tv rvals → Calls Try.prog 11 #[.pointer (some ⟨pb, 0, none⟩), .agg #[.int .i64 dov, .int .i64 who, .slice Ak key.length ck, .int .i64 val, .int .i64 nv]] W
          (fun e W' => e = .returned (.bool true) ∧ PSt w pb w.heap.size thb t0 t1 ks (.func (.func 48) #[] #[ptr br, ptr bt]) W')) := Lib.hid fun W vth Lh br bt rv tv rvals h =>
        (step_i W w.heap.size pb 0 t0 T0 v0 L0 ks dov who val nv Ak ck key h.p0 h.o0 h.opb hkey (rdI_below hrk h.bel) hlk hkn hkc).mono fun e W' ⟨g1, T', v', L', g2, g3⟩ => ⟨g1, _, _, _, _, _, _, _, _, _, _, _, _, _, rfl, h.step0 g2 g3⟩
      have hst1 : Hid (∀ W vth Lh br bt rv tv rvals, PT w W pb w.heap.size thb t0 t1 T0 T1 v0 v1 vth L0 L1 Lh ks br bt rv tv rvals → Calls Try.prog 11 #[.pointer (some ⟨pb, 2, none⟩), .agg #[.int .i64 dov, .int .i64 who, .slice Ak key.length ck, .int .i64 val, .int .i64 nv]] W
          (fun e W' => e = .returned (.bool true) ∧ PSt w pb w.heap.size thb t0 t1 ks (.func (.func 48) #[] #[ptr br, ptr bt]) W')) := Lib.hid fun W vth Lh br bt rv tv rvals h =>
        (step_i W w.heap.size pb 2 t1 T1 v1 L1 ks dov who val nv Ak ck key h.p1 h.o1 h.opb hkey (rdI_below hrk h.bel) hlk hkn hkc).mono fun e W' ⟨g1, T', v', L', g2, g3⟩ => ⟨g1, _, _, _, _, _, _, _, _, _, _, _, _, _, rfl, h.step1 g2 g3⟩
      have hcel : Hid (∀ W, Below w.heap.size w W → W.cell? ⟨b, off + k * 5, none⟩ = some (.int .i64 dov) ∧ W.cell? ⟨b, off + k * 5 + 1, none⟩ = some (.int .i64 who) ∧ W.cell? ⟨b, off + k * 5 + 2, none⟩ = some (.slice Ak key.length ck) ∧ W.cell? ⟨b, off + k * 5 + 3, none⟩ = some (.int .i64 val) ∧ W.cell? ⟨b, off + k * 5 + 4, none⟩ = some (.int .i64 nv)) := Lib.hid fun W hb =>
        ⟨(hb.cell (p := ⟨b, off + k * 5, none⟩) (cell_lt q0)).trans q0, (hb.cell (p := ⟨b, off + k * 5 + 1, none⟩) (cell_lt q1)).trans q1, (hb.cell (p := ⟨b, off + k * 5 + 2, none⟩) (cell_lt q2)).trans q2, (hb.cell (p := ⟨b, off + k * 5 + 3, none⟩) (cell_lt q3)).trans q3, (hb.cell (p := ⟨b, off + k * 5 + 4, none⟩) (cell_lt q4)).trans q4⟩
      clear hPT hbb q0 q1 q2 q3 q4 hrk hkn hlk hs
      rcases bits_and_one who with hw | hw
      · by_cases hd : dov = 6
        · subst hd
          subst e0
          gi_wp2_with fail
          refine callR hall0.out ?_
          rintro e W1 ⟨br1, bt1, rv1, tv1, rvals1, rfl, hC1, hb1⟩
          have H1 := HPT.out.fr (Fr.of_below hb1 Nob)
          have H2 := H1.hold H1.p0 (hC1.monoB hsz)
          obtain ⟨W2, hW2⟩ : ∃ W2, W2 = W1.setCell ⟨thb, 0, none⟩ (.slice A0 L0.length c0) := ⟨_, rfl⟩
          rw [← hW2] at H2
          have d1 := H1.p0.c1
          have dth := H1.bth.cell
          have fth1 := H1.bth.frozen
          obtain ⟨m0', m1', m2', m3', m4'⟩ := hcel.out W2 H2.bel
          rw [hW2] at m0' m1' m2' m3' m4'
          have hcall := Lib.hid (hst0.out W2 _ _ _ _ _ _ _ H2)
          replace hW2 := Lib.hid hW2
          clear H1 H2 hC1 hb1 hst0 hst1 hall0 hall1 HPT hcel cp0 cp1 cp2 cp3 cth fth m0 m1 m2 m3 m4
          gi_wp2_with fail
          rw [← hW2.out]
          refine callR hcall.out ?_
          rintro e W3 ⟨rfl, hps⟩
          have hk3 := Lib.hid hps
          clear hps hcall hW2 m0' m1' m2' m3' m4' d1 dth fth1
          gi_wp2
          exact ⟨⟨k + 1, by omega, by simp, hk3⟩, by simp [intOf]; omega⟩
        · have hd1 : (dov == 6) = false := by simp [hd]
          have hcall := Lib.hid (hst0.out wr _ _ _ _ _ _ _ HPT.out)
          clear hst0 hst1 hall0 hall1 HPT hcel cp0 cp1 cp2 cp3 cth fth
          gi_wp2_with fail
          refine callR hcall.out ?_
          rintro e W3 ⟨rfl, hps⟩
          have hk3 := Lib.hid hps
          clear hps hcall m0 m1 m2 m3 m4
          gi_wp2
          exact ⟨⟨k + 1, by omega, by simp, hk3⟩, by simp [intOf]; omega⟩
      · by_cases hd : dov = 6
        · subst hd
          subst e1
          gi_wp2_with fail
          refine callR hall1.out ?_
          rintro e W1 ⟨br1, bt1, rv1, tv1, rvals1, rfl, hC1, hb1⟩
          have H1 := HPT.out.fr (Fr.of_below hb1 Nob)
          have H2 := H1.hold H1.p1 (hC1.monoB hsz)
          obtain ⟨W2, hW2⟩ : ∃ W2, W2 = W1.setCell ⟨thb, 0, none⟩ (.slice A1 L1.length c1) := ⟨_, rfl⟩
          rw [← hW2] at H2
          have d1 := H1.p1.c1
          have dth := H1.bth.cell
          have fth1 := H1.bth.frozen
          obtain ⟨m0', m1', m2', m3', m4'⟩ := hcel.out W2 H2.bel
          rw [hW2] at m0' m1' m2' m3' m4'
          have hcall := Lib.hid (hst1.out W2 _ _ _ _ _ _ _ H2)
          replace hW2 := Lib.hid hW2
          clear H1 H2 hC1 hb1 hst0 hst1 hall0 hall1 HPT hcel cp0 cp1 cp2 cp3 cth fth m0 m1 m2 m3 m4
          gi_wp2_with fail
          rw [← hW2.out]
          refine callR hcall.out ?_
          rintro e W3 ⟨rfl, hps⟩
          have hk3 := Lib.hid hps
          clear hps hcall hW2 m0' m1' m2' m3' m4' d1 dth fth1
          gi_wp2
          exact ⟨⟨k + 1, by omega, by simp, hk3⟩, by simp [intOf]; omega⟩
        · have hd1 : (dov == 6) = false := by simp [hd]
          have hcall := Lib.hid (hst1.out wr _ _ _ _ _ _ _ HPT.out)
          clear hst0 hst1 hall0 hall1 HPT hcel cp0 cp1 cp2 cp3 cth fth
          gi_wp2_with fail
          refine callR hcall.out ?_
          rintro e W3 ⟨rfl, hps⟩
          have hk3 := Lib.hid hps
          clear hps hcall m0 m1 m2 m3 m4
          gi_wp2
          exact ⟨⟨k + 1, by omega, by simp, hk3⟩, by simp [intOf]; omega⟩

    · have hkk : k = ss.length := by omega
      subst hkk
      replace hPT := Lib.hid hPT
      gi_upto_if 45 with fail
      repeat ((fail_if_success (show Code.wpIn _ _ _ (Code.seq (Code.seq (Code.region 21 _ _) _) _) _ _ _)); first | go_values | gi_guarded | gi_step | gi_upon)
      rw [hQQ.out]
      exact f3l_i n w wr pb w.heap.size thb t0 t1 T0 T1 v0 v1 vth L0 L1 Lh ks br' bt' rv' tv' rvals' hPT.out _ _ _ _ _ _ _ _ _ _ _ _ _ _ _ _ _ _ _ _ _ _ _ _ _ _ _ _ _ _ _ _ _ _ _ _ _ _ _ _ _ _ _ _ _ _ _ _ _ _ _ _ _ _ _ _ _ _ _ _ _ _ _ _ _ _ _ _ _ _ _ _ _ _ _ _ _ _ _ _ _ _ _ _ _ _ _ _ _ _ _ _ _ _ _ _ _ _ _ _ _ _ _ _ _ _ _ _ _ _ _ _ _ _ _ _ _ _ _ _ _ _ _ _ _ _ _ _ _ _ _ _ _ _ _ _ _ _ _ _ _ _ _ _ _
end Go.Proofs.Ytioflglfnalcaaa

/- glossarylaw04.TriePlays returns true, whatever the calls, and its input reads as it did. No condition. -/
namespace Go.Proofs.Ytioflglfnalcaaa
open Go.ChangeShapes Go.WideShapes Go.ChangeAt Go.RowKit Go.Deep

section
variable {H : Type} {enc : TypeId × Value → H} {P : Program} {w : World} {base : Nat} {spare : Nat → Bool} {held : Bool}
theorem open_slice_fields {t e : TypeId} {fs : Array Field} {fuel : Nat} {cs : List Value} {x : DataW H × List MemPlace} (ht : P.underlying t = some (.slice e)) (he : P.underlying e = some (.struct fs))
    (hone : oneCellFields P fs = true) (hC : P.cellsOf e = fs.size) (h : DataW.trod enc P w base spare held fuel t cs = some x) :
    (cs = [.slice none 0 0] ∧ x = (.nil, [])) ∨
    ∃ (a : Addr) (len cap m : Nat) (D : Nat → DataW H) (Pl : Nat → List MemPlace), cs = [.slice (some a) len cap] ∧ base ≤ a.block ∧ len ≤ cap ∧ cap ≤ maxLen ∧ m = (if spare a.block then cap else len) ∧
      x = (.slice ((List.range len).map D) ((List.range (m - len)).map fun j => D (len + j)), MemPlace.row a (m * fs.size) ++ (List.range m).flatMap Pl) ∧
      ∀ i, i < m → ∃ (ys : List (DataW H × List MemPlace)) (n : Nat), D i = .agg (ys.map (·.1)) ∧ Pl i = ys.flatMap (·.2) ∧ ys.length = fs.size ∧
        ∀ (j : Nat) (f : Field), fs[j]? = some f → ∃ (v : Value) (y : DataW H × List MemPlace), w.cell? (a.add (i * fs.size + j)) = some v ∧ ys[j]? = some y ∧ DataW.trod enc P w base spare held n f.type [v] = some y := by
  rcases open_slice ht h with h0 | ⟨a, len, cap, m, n, D, Pl, hcs, hb, hl, hm, hmm, hx, hi⟩
  · exact .inl h0
  · refine .inr ⟨a, len, cap, m, D, Pl, hcs, hb, hl, hm, hmm, by rw [hC] at hx; exact hx, fun i him => ?_⟩
    obtain ⟨cs', hc, ht'⟩ := hi i him
    rw [hC] at hc
    obtain ⟨ys, n', hn', hy, hlen, hyl, hf⟩ := DataW.trod_struct he ht'
    obtain ⟨_, hcl, hat⟩ := World.cells?_some hc
    simp only [Prod.mk.injEq] at hy
    refine ⟨ys, n', hy.1, hy.2, hyl, fun j f hj => ?_⟩
    obtain ⟨ho, hk⟩ := hone_of hone j f hj
    have hjl : j < fs.size := (Array.getElem?_eq_some_iff.1 hj).1
    have hcell := hat j hjl
    have hv : cs'[j]? = some (cs'[j]'(by omega)) := List.getElem?_eq_getElem (by omega)
    have h1 := hf j f hj
    rw [ho, hk] at h1
    have hone' : (cs'.drop j).take 1 = [cs'[j]'(by omega)] := by
      rw [List.drop_eq_getElem_cons (by omega)]
      rfl
    rw [hone'] at h1
    have hys : ys[j]? = some (ys[j]'(by omega)) := List.getElem?_eq_getElem (by omega)
    refine ⟨_, _, ?_, hys, h1.trans hys⟩
    rw [← Go.Deep.add_add, hcell, hv]
end

theorem Try.cells38 : Try.prog.cellsOf 38 = 5 := by kernel_rfl
theorem Try.bytes38 : Try.prog.bytesOf 38 = 56 := by kernel_rfl

/-- A row of runes in a cell, opened. -/
theorem open_runes1 {H : Type} {enc : TypeId × Value → H} {W : World} {base : Nat} {held : Bool} {fuel : Nat} {v : Value} {x : DataW H × List MemPlace} (h : DataW.trod enc Try.prog W base (fun _ => true) held fuel 36 [v] = some x) :
    ∃ A cap l, v = .slice A l.length cap ∧ RdI W A l ∧ l.length ≤ cap ∧ (A = none → cap = 0) ∧ (x.1 = .nil ∧ cap = 0 ∨ ∃ a b, x.1 = .slice a b ∧ a.length + b.length = cap) := by
  rcases open_ints Try.underlying36 Try.underlying21 Try.cells21 h with ⟨hcs, rfl⟩ | ⟨a, len, cap, zs, hcs, _, hl, hm, hz, rfl, hcell, _⟩
  · injection hcs with hcs
    subst hcs
    exact ⟨none, 0, [], rfl, (fun k hk => absurd hk (Nat.not_lt_zero k)), Nat.le_refl _, fun _ => rfl, .inl ⟨rfl, rfl⟩⟩
  · injection hcs with hcs
    subst hcs
    simp only [if_true] at hz
    have hln : (zs.take len).length = len := by rw [List.length_take]; omega
    refine ⟨some a, cap, zs.take len, by rw [hln], rdI_of_opened (fun a' e c hc => ?_) (fun e => by cases e) (by omega), by omega, (fun e => by cases e), .inr ⟨_, _, rfl, by simp [lits]; omega⟩⟩
    cases e
    exact hcell c (by omega)

/-- A list of steps, opened. -/
theorem open_steps {H : Type} {enc : TypeId × Value → H} {W : World} {base : Nat} {held : Bool} {fuel : Nat} {v : Value} {x : DataW H × List MemPlace} (hv : ∃ a l c, v = .slice a l c) (h : DataW.trod enc Try.prog W base (fun _ => true) held fuel 22 v.cells.toList = some x)
    {ts : List TypeId} {ds : List (DataW H)} (hsz : (DataW.weightsEach Try.prog ts ds).all (· ≤ reachBytes) = true) {j : Nat} (hj : ts[j]? = some 22) (hd : ds[j]? = some x.1) :
    ∃ A cap ss, v = .slice A ss.length cap ∧ RdSteps W A ss ∧ ss.length * 56 ≤ 140737488351232 := by
  obtain ⟨a0, l0, c0, rfl⟩ := hv
  rcases open_slice_fields Try.underlying22 Try.underlying38 (by kernel_rfl) Try.cells38 h with ⟨hcs, rfl⟩ | ⟨a, len, cap, m, D, Pl, hcs, _, hl, hm, hmm, rfl, hrow⟩
  · simp [Value.cells] at hcs
    obtain ⟨rfl, rfl, rfl⟩ := hcs
    exact ⟨none, 0, [], rfl, (fun i s hi => by simp at hi), by simp⟩
  · simp [Value.cells] at hcs
    obtain ⟨rfl, rfl, rfl⟩ := hcs
    simp only [if_true] at hmm
    subst hmm
    have hs1 := sized_slice hsz hj hd Try.underlying22
    rw [Try.bytes38, reach_eq] at hs1
    simp only [List.length_map, List.length_range] at hs1
    have hall : ∀ i, ∃ s : StepT, i < l0 → ∃ b off Ak ck, a = ⟨b, off, none⟩ ∧ W.cell? ⟨b, off + i * 5, none⟩ = some (.int .i64 s.dov) ∧ W.cell? ⟨b, off + i * 5 + 1, none⟩ = some (.int .i64 s.who) ∧ W.cell? ⟨b, off + i * 5 + 2, none⟩ = some (.slice Ak s.key.length ck) ∧
        W.cell? ⟨b, off + i * 5 + 3, none⟩ = some (.int .i64 s.val) ∧ W.cell? ⟨b, off + i * 5 + 4, none⟩ = some (.int .i64 s.nv) ∧ RdI W Ak s.key ∧ (Ak = none → ck = 0) ∧ s.key.length ≤ ck ∧ s.key.length ≤ 35184372087808 := fun i => by
      by_cases hi : i < l0
      · obtain ⟨ys, n, hD, _, hyl, hf⟩ := hrow i (by omega)
        obtain ⟨u0, y0, a0', hy0, t0⟩ := hf 0 _ rfl
        obtain ⟨u1, y1, a1', hy1, t1⟩ := hf 1 _ rfl
        obtain ⟨u2, y2, a2', hy2, t2⟩ := hf 2 _ rfl
        obtain ⟨u3, y3, a3', hy3, t3⟩ := hf 3 _ rfl
        obtain ⟨u4, y4, a4', hy4, t4⟩ := hf 4 _ rfl
        obtain ⟨n0, e0, _, _⟩ := DataW.trod_int Try.underlying3 t0
        obtain ⟨n1, e1, _, _⟩ := DataW.trod_int Try.underlying3 t1
        obtain ⟨n3, e3, _, _⟩ := DataW.trod_int Try.underlying3 t3
        obtain ⟨n4, e4, _, _⟩ := DataW.trod_int Try.underlying3 t4
        injection e0 with e0
        injection e1 with e1
        injection e3 with e3
        injection e4 with e4
        subst e0 e1 e3 e4
        obtain ⟨Ak, ck, key, rfl, hk1, hk2, hk3, hk4⟩ := open_runes1 t2
        obtain ⟨ys', n', _, _, _, hf'⟩ := hrow 0 (by omega)
        obtain ⟨u0', y0', b0', _, _⟩ := hf' 0 _ rfl
        obtain ⟨b, off, spot⟩ := a
        have hspot : spot = none := by simpa [Addr.add] using World.cell?_spot b0'
        subst hspot
        rw [addr_add] at a0' a1' a2' a3' a4'
        refine ⟨⟨n0, n1, key, n3, n4⟩, fun _ => ⟨b, off, Ak, ck, rfl, a0', ?_, ?_, ?_, ?_, hk1, hk3, hk2, ?_⟩⟩
        · rw [← a1']; congr 1
        · rw [← a2']; congr 1
        · rw [← a3']; congr 1
        · rw [← a4']; congr 1
        · simp only
          rcases hk4 with ⟨_, h0⟩ | ⟨aa, bb, h1, h2⟩
          · omega
          · have hmem : D i ∈ (List.range l0).map D := List.mem_map.2 ⟨i, List.mem_range.2 hi, rfl⟩
            rw [hD] at hmem
            have hyj : (ys.map (·.1))[2]? = some (.slice aa bb) := by rw [List.getElem?_map, hy2]; simp [h1]
            have := List.all_eq_true.1 hsz _ (DataW.weights_mem_each hj hd ((aa.length + bb.length) * Try.prog.bytesOf 21) (by
              simp only [DataW.weights, Try.underlying22, List.mem_cons, List.mem_append]
              refine .inr (.inl (mem_weightsAll hmem _ ?_))
              simp only [DataW.weights, Try.underlying38]
              refine DataW.weights_mem_each (j := 2) (t := 36) rfl hyj _ ?_
              simp [DataW.weights, Try.underlying36]))
            rw [Try.bytes21] at this
            simp only [decide_eq_true_eq] at this
            rw [reach_eq] at this
            omega
      · exact ⟨⟨0, 0, [], 0, 0⟩, fun h => absurd h hi⟩
    obtain ⟨f, hf⟩ := Classical.skolem.1 hall
    refine ⟨some a, m, (List.range l0).map f, by simp, fun i s hi => ?_, by simp; omega⟩
    rw [List.getElem?_map] at hi
    by_cases hil : i < l0
    · rw [List.getElem?_range hil] at hi
      injection hi with hi
      subst hi
      obtain ⟨b, off, Ak, ck, e, hh⟩ := hf i hil
      exact ⟨b, off, Ak, ck, by rw [e], hh⟩
    · rw [List.getElem?_eq_none (by simpa using hil)] at hi
      cases hi

set_option maxHeartbeats 1600000 in
set_option maxRecDepth 100000 in
theorem triePlays_lifted (os : Os) (started : os.Started) (H : Type) (enc : TypeId × Value → H) :
    ReturnsInHanded {} Try.checked os 3 .any (Rows.triePlaysSpec.pre6 enc Try.prog Try.f3 Rows.triePlaysRow.domain false) (Rows.triePlaysSpec.post enc Try.prog Try.f3 false true false false) := by
  refine returnsInHanded_of_change_sized (C := Try.checked) Try.own started (by kernel_rfl) Try.func3
    (ChangeSpec.witness6 (enc := enc) (C := Try.checked) false ⟨#[], #[.slice none 0 0], []⟩ 8 (by kernel_rfl) (by kernel_rfl) (by kernel_rfl) (by kernel_rfl)) ?_
  intro W base args ds gs before hval0 hW _ hsz0 _
  have hval : ∀ (j : Nat) t v, Try.f3.params[j]? = some t → args[j]? = some v → Value.okWide Try.prog W .any base t v := hval0
  have hsz : (DataW.weightsEach Try.prog (Try.f3.params.toList ++ Rows.triePlaysSpec.plain.varTypes Try.prog) (ds ++ gs)).all (· ≤ reachBytes) = true := hsz0
  have hW' := hW
  obtain ⟨p, q, hA0, hV, rfl, _, _⟩ := hW
  have hA : DataW.TrodAll enc Try.prog W 0 (fun _ => true) true Try.f3.params.toList args.toList ds p := hA0
  rw [Try.params3] at hA hval hsz
  obtain ⟨v0, d0, rfl, rfl, h0⟩ := trodAll_one hA
  obtain ⟨rfl, rfl⟩ := trodVars_none hV
  have h0k := h0
  obtain ⟨fuel0, hf0⟩ := h0
  clear hA0 hval0 hsz0
  simp only [List.append_nil] at hW'
  have hlt : ∀ x ∈ p, x.block < W.heap.size := fun x hx => hW'.lt x hx
  obtain ⟨A, cap, ss, rfl, hr1, hr2⟩ := open_steps (okWide_slice Try.underlying22 (hval 0 22 v0 rfl rfl)) hf0 hsz (j := 0) rfl rfl
  refine (callsIn_wide.1 (plays_law 1 W A cap ss hr1 (by omega))).mono fun e W' ⟨he, hb⟩ => ?_
  subst he
  exact ⟨_, rfl, ⟨_, _, _, [], _, [], hW', trodAll_mk1 (shut_bool Try.underlying4 true), trodAll_mk1 (Below.trod Try.laidOut (by kernel_rfl) (of_decide_eq_true (by kernel_rfl)) h0k hb (fun x hx => hlt x hx)), rfl, hb.frame _, fun h => by cases h⟩⟩

theorem triePlays_holds : Rows.TriePlaysSaid :=
  OpenClaim.holds_of_wide 3 Try.f3 rfl rfl rfl rfl rfl rfl rfl ⟨rfl, rfl, rfl, rfl, rfl⟩ rfl rfl rfl rfl rfl (by kernel_rfl) Try.func3 (by kernel_rfl)
    (of_decide_eq_true (by kernel_rfl)) (by unfold Func.isWrapper; first | (rw [if_pos (by decide +kernel)]; kernel_rfl) | (rw [if_neg (by decide +kernel)]; exact ⟨rfl, rfl⟩))
    (fun os started H enc _ => triePlays_lifted os started H enc)
end Go.Proofs.Ytioflglfnalcaaa

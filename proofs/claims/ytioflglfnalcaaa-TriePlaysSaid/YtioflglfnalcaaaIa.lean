/- Below, All and their iterator at Trie[string], part a: printed by inst2.py from the texts of Trie[int]. -/
import Derived.RangeFuncBox
import Derived.Maps.AppendAt
import Derived.Deep.AppendLies
import Derived.Test.YtioflglfnalcaaaWi
import Derived.Test.YtioflglfnalcaaaVs
namespace Go.Proofs.Ytioflglfnalcaaa.S
open Go.RowKit Go.Shelf
attribute [local go_sem] Oper.semAt_some

set_option maxRecDepth 100000 in
set_option maxHeartbeats 1000000 in
theorem keys1_i (n : Nat) (hn : 1 ≤ n) (l Bm : Nat) (mo : Option Nat) (es : List (Int × Value)) (J Jx : List Int → World → Prop)
    (hY : ∀ pre x W, J pre W → pre.length < es.length → YieldAt Fence.wide (n - 1) Try.prog l #[enc32 x] W fun e W' =>
      (e = .returned (.bool true) ∧ J (pre ++ [x]) W' ∧ KeepsWalks W W') ∨ (e = .returned (.bool false) ∧ Jx (pre ++ [x]) W'))
    (W : World) (hJ : AbidesFrom W.heap.size J) (hm : W.cell? ⟨Bm, 0, none⟩ = some (.map mo)) (hes : MapIs W mo es) (h0 : J [] W) :
    CallsIn Fence.wide n Try.prog 64 #[.func (.yield l) #[] #[], .pointer (some ⟨Bm, 0, none⟩)] W fun e W' => (∃ v, e = .returned v) ∧
      ((∃ xs : List Int, xs.Perm (es.map (·.1)) ∧ J xs W') ∨ (∃ pre : List Int, True ∧ Jx pre W')) := by
  cases mo with
  | none =>
    have he : es = [] := hes
    subst he
    have hrun := run_range_nilMap (P := Try.prog) W 91 21 97 Try.underlying91
    have hnx := run_next_nilMap (P := Try.prog) W 0 0 0 #[]
    have hJ0 : Hid (J [] (W.alloc (.mapIter none 0 #[] 0))) := hJ [] W _ none h0 (World.grownBy_alloc W _ none) (fun r e => by cases e)
    clear hes hJ hY h0
    refine callsIn_of_wp Try.func64 rfl trivial ?_ rfl
    simp only [Try.ntmps64, List.size_toArray, List.length_cons, List.length_nil, Nat.reduceAdd, Nat.reduceSub, Array.replicate_succ, Array.replicate_zero, List.push_toArray, List.append_toArray, List.nil_append, List.cons_append]
    gi_wp2
    gi_loopw [3] (fun _ wr => wr = W.alloc (.mapIter none 0 #[] 0)) (fun _ wr => 0)
    case atStart => rfl
    case round =>
      subst hrel
      gi_wp2
      go_end0
      exact ⟨⟨_, rfl⟩, .inl ⟨[], by simp, hJ0.out⟩⟩
  | some m =>
    have hme : W.heap[m]? = some (.map (ents 0 es).toArray es.length) := hes
    have hrun := run_range_ents (P := Try.prog) Try.underlying91 hme
    have hI0 := Lib.hid (iter_new hme)
    have hJ0 : Hid (J [] (W.alloc (.mapIter (some m) es.length #[] es.length))) := hJ [] W _ none h0 (World.grownBy_alloc W _ none) (fun r e => by cases e)
    have HJ := Lib.hid hJ
    have HY := Lib.hid hY
    clear hme hes hJ hY h0
    refine callsIn_of_wp Try.func64 rfl trivial ?_ rfl
    simp only [Try.ntmps64, List.size_toArray, List.length_cons, List.length_nil, Nat.reduceAdd, Nat.reduceSub, Array.replicate_succ, Array.replicate_zero, List.push_toArray, List.append_toArray, List.nil_append, List.cons_append]
    gi_wp2
    gi_loopw [3] (fun _ wr => ∃ seen : List Nat, Hid (Iter wr W.heap.size m es seen) ∧ Hid (J (cameKeys es seen) wr)) (fun _ wr => es.length - cameOf wr W.heap.size)
    case atStart => exact ⟨[], hI0, hJ0⟩
    case round =>
      obtain ⟨seen, hI, hJs⟩ := hrel
      rcases run_next_ents (P := Try.prog) 0 hI.out with ⟨hlen, hnx⟩ | ⟨i, hi, hns, w2, hnx, hg, hI2⟩
      · have hP := Lib.hid (came_perm (seen_perm hI.out.nodup hI.out.lt hlen))
        clear hlen
        gi_wp2
        go_end0
        exact ⟨⟨_, rfl⟩, .inl ⟨_, hP.out, hJs.out⟩⟩
      · have hen := run_entry_ents (P := Try.prog) hI2 hi
        have hcl : (cameKeys es seen).length < es.length := by
          have := seen_le hI2.nodup hI2.lt
          simp at this
          simp [cameKeys]; omega
        have hJ2 : J (cameKeys es seen) w2 := HJ.out _ wr w2 (some W.heap.size) hJs.out hg (fun r e => by cases e; exact ⟨Nat.le_refl _, _, hI.out.iter, rfl⟩)
        have hck : cameKeys es (seen ++ [i]) = cameKeys es seen ++ [(es[i]).1] := by simp [cameKeys, List.getD, hi]
        obtain ⟨fn, tmps, assign, body, hy, hR⟩ := HY.out (cameKeys es seen) (es[i]).1 w2 hJ2 hcl
        have hmeas : Hid (es.length - (seen.length + 1) < es.length - seen.length) := by
          have := seen_le hI2.nodup hI2.lt
          simp at this
          unfold Hid; omega
        have HI2 := Lib.hid hI2
        have HR := Lib.hid hR
        have Hck := Lib.hid hck
        clear hI2 hR hck hJ2 hcl hg hns
        simp only [enc32] at hy
        generalize (es[i]).1 = x at hnx hen hy HR Hck
        generalize (es[i]).2 = v at hnx hen
        gi_wp2
        refine HR.out.mono ?_
        rintro e W3 (⟨rfl, hJ3, hk3⟩ | ⟨rfl, hJx3⟩)
        · replace hJ3 := Lib.hid hJ3
          have hI3 := Lib.hid (HI2.out.walks hk3)
          clear hk3
          gi_wp2
          go_roundw
          case rel => exact ⟨seen ++ [i], hI3, by rw [Hck.out]; exact hJ3⟩
          case measure => rw [hI3.out.came, hI.out.came]; simpa using hmeas.out
        · replace hJx3 := Lib.hid hJx3
          gi_wp2
          refine bodyPost_ret (results_none rfl _ _ _) rfl ?_
          exact ⟨⟨_, rfl⟩, .inr ⟨_, trivial, hJx3.out⟩⟩

theorem keys_stops_i (n : Nat) (hn : 1 ≤ n) (Bm : Nat) (mo : Option Nat) (es : List (Int × Value)) (w : World) (hBm : Bm < w.heap.size) (hm : w.cell? ⟨Bm, 0, none⟩ = some (.map mo)) (hes : MapIs w mo es) :
    SeqStops Fence.wide n Try.prog 64 #[.pointer (some ⟨Bm, 0, none⟩)] enc32 (fun xs => xs.Perm (es.map (·.1))) (fun _ => True) es.length w := fun l J Jx W hW hJ _ hY h0 => by
  refine keys1_i n hn l Bm mo es J Jx hY W hJ ((hW.cell (p := ⟨Bm, 0, none⟩) hBm).trans hm) ?_ h0
  cases mo with
  | none => exact hes
  | some m => exact (hW.block m (lt_of_heap hes)).trans hes

set_option maxRecDepth 100000 in
set_option maxHeartbeats 2000000 in
theorem appendseq_i (n : Nat) (hn : 3 ≤ n) (Bm : Nat) (mo : Option Nat) (es : List (Int × Value)) (hl : es.length ≤ 35184372088832) (w : World) (hBm : Bm < w.heap.size) (hm : w.cell? ⟨Bm, 0, none⟩ = some (.map mo)) (hes : MapIs w mo es) :
    CallsIn Fence.wide n Try.prog 66 #[.slice none 0 0, .func (.func 64) #[] #[.pointer (some ⟨Bm, 0, none⟩)]] w fun e W' => ∃ v, ∃ xs : List Int, e = .returned v ∧ xs.Perm (es.map (·.1)) ∧ W'.ownsRow w.heap.size 21 1 v xs.length (xs.map enc32) ∧ (v = .slice none 0 0 ↔ xs = []) ∧ Below w.heap.size w W' := by
  have h1 : 1 ≤ n := by omega
  obtain ⟨i0, hi, hz0, hz1, hz2⟩ := info_parts info21
  have hbN : (w.alloc (.cells #[.slice none 0 0] 36)).cell? ⟨Bm, 0, none⟩ = some (.map mo) := (World.cell?_alloc_lt w _ ⟨Bm, 0, none⟩ hBm).trans hm
  have hesN : MapIs (w.alloc (.cells #[.slice none 0 0] 36)) mo es := by
    cases mo with
    | none => exact hes
    | some m => exact (heap_alloc_lt (lt_of_heap hes)).trans hes
  refine callsIn_of_wp_marks Try.func66 rfl trivial ?_ rfl
  simp only [Try.ntmps66, List.size_toArray, List.length_cons, List.length_nil, Nat.reduceAdd, Nat.reduceSub, Array.replicate_succ, Array.replicate_zero, List.push_toArray, List.append_toArray, List.nil_append, List.cons_append]
  have Hm := Lib.hid hm
  have HbN := Lib.hid hbN
  clear hm hbN
  gi_wp2
  have bO := Boxed.new w 36 (.slice none 0 0)
  have hB0 : Below w.heap.size w (w.alloc (.cells #[.slice none 0 0] 36)) := (Below.refl _ w).alloc (Nat.le_refl _) _
  refine wpIn_rangeFunc_ownG rfl h1 (gf := 64) (lb := #[.pointer (some ⟨Bm, 0, none⟩)]) rfl trivial (enters_of Try.func64 (by kernel_rfl) rfl)
    (keys_stops_i (n - 1) (by omega) Bm mo es _ (by simp; omega) HbN.out hesN) walksK_t walksK_b (Below.refl _ _) (fun _ => rfl)
    (fun pre W => (∃ v, Boxed W w.heap.size 36 v ∧ W.ownsRow w.heap.size 21 1 v pre.length (pre.map enc32) ∧ (v = .slice none 0 0 ↔ pre = [])) ∧ Below w.heap.size w W)
    (fun _ _ _ => False)
    (OwnFrom.and (Own.from (holdsRow_own w.heap.size w.heap.size 36 21 1 (fun pre => pre.length) (fun pre => pre.map enc32) (fun pre v => v = .slice none 0 0 ↔ pre = [])) _) (ownFrom_below (Nat.le_refl _) (by simp)))
    (fun _ _ _ _ _ hs _ _ => hs)
    ⟨⟨_, bO, World.ownsRow_nil _ _ _ _, by simp⟩, hB0⟩
    (fun x => { tmps := #[.slice none 0 0, .func (.func 64) #[] #[.pointer (some ⟨Bm, 0, none⟩)], .pointer (some ⟨w.heap.size, 0, none⟩), undef, .slice none 0 0, .int .i32 x, .func (.func 64) #[] #[.pointer (some ⟨Bm, 0, none⟩)], .int .i32 x, undef, undef, undef, undef, undef], defers := [] }) ?assign ?body ?done ?stop
  case assign =>
    intro l x W K hK
    simp only [enc32]
    gi_wp2
    exact hK
  case body =>
    rintro l pre x W ⟨⟨v, hv, hrow, hnil⟩, hB⟩ hlt
    have hc := hv.cell
    have hnil' := Lib.hid hnil
    clear hnil
    gi_wp2_with (gi_at_builtin; refine wpListIn_append_own _ rfl _ _ 36 rfl w.heap.size 21 i0 (.int .i32 0) 1 4 Try.underlying36 hi hz0 hz1 hz2 rfl (by decide) _ _ _ rfl (hrow.alloc _) ⟨W.heap.size, 0, none⟩ 1 1 [.int .i32 x] rfl rfl (cell_one_new _ _ _) (by simp [Value.oneCell']) (by unfold maxLen; omega) (by omega) (by have := hB.size; simp; omega) ?_; intro v' w1 hown' hgrow _; obtain ⟨g', cap', rfl⟩ := ownsRow_succ hown'; obtain ⟨hv1, hv2, hr2, hk2, hb2⟩ := hv.appended (by decide) hrow hB.size (Nat.le_refl _) hown' hgrow; have hc1 := hv1.cell; have hf1 := hv1.frozen)
    exact ⟨hk2.from _, KeepsOthers.walks' hk2, ⟨_, hv2, by simpa [enc32] using hr2, by simp⟩, hB.trans hb2⟩
  case done =>
    rintro D ys W hD hS ⟨⟨v, hv, hrow, hnil⟩, hB⟩ hK
    have hc := hv.cell
    have hnil' := Lib.hid hnil
    have hK' := Lib.hid hK
    clear hnil hK
    gi_wp2
    refine ⟨by simp, .inl ⟨_, _, rfl, run_takeDeferred hK'.out, ?_⟩⟩
    exact ⟨_, results_tmp rfl _ _ _, v, ys, rfl, hS, ownsRow_putObj hrow _ hK'.out rfl, hnil'.out, hB.trans (belowK_b (w := w) (Nat.le_refl _) W D _ _ (by simp at hD; omega) hK'.out rfl rfl)⟩
  case stop =>
    rintro D c pre W _ _ h _
    exact h.elim

set_option maxHeartbeats 400000 in
theorem collect_i (Bm : Nat) (mo : Option Nat) (es : List (Int × Value)) (hl : es.length ≤ 35184372088832) (w : World) (hBm : Bm < w.heap.size) (hm : w.cell? ⟨Bm, 0, none⟩ = some (.map mo)) (hes : MapIs w mo es) :
    Calls Try.prog 61 #[.func (.func 64) #[] #[.pointer (some ⟨Bm, 0, none⟩)]] w fun e W' => ∃ v, ∃ xs : List Int, e = .returned v ∧ xs.Perm (es.map (·.1)) ∧ W'.ownsRow w.heap.size 21 1 v xs.length (xs.map enc32) ∧ (v = .slice none 0 0 ↔ xs = []) ∧ Below w.heap.size w W' := by
  have H := Lib.hid (callsIn_wide.1 (appendseq_i 5 (by omega) Bm mo es hl w hBm hm hes))
  clear hm hes
  go_enter Try.func61, Try.ntmps61
  go_wp2_with (go_at_call 66; refine H.out.mono ?_; rintro e w' ⟨v, xs, rfl, h1, h2, h3, h4⟩; replace h3 := Lib.hid h3)
  go_ret
  exact ⟨v, xs, rfl, h1, h2, h3.out, h4⟩

/-- maps.Keys: a function value over one new block. -/

theorem keys_i (mo : Option Nat) (w : World) :
    Calls Try.prog 50 #[.map mo] w fun e w' => e = .returned (.func (.func 64) #[] #[.pointer (some ⟨w.heap.size, 0, none⟩)]) ∧ w' = w.alloc (.cells #[.map mo] 91) := by
  go_enter Try.func50, Try.ntmps50
  go_wp2
  go_ret
  exact ⟨rfl, rfl⟩

set_option maxHeartbeats 400000 in
theorem sorted_i {N : Nat} (hS : SortOk N) (Bm : Nat) (mo : Option Nat) (es : List (Int × Value)) (hN : es.length ≤ N) (hl : es.length ≤ 35184372088832) (w : World) (hBm : Bm < w.heap.size) (hm : w.cell? ⟨Bm, 0, none⟩ = some (.map mo)) (hes : MapIs w mo es) :
    Calls Try.prog 45 #[.func (.func 64) #[] #[.pointer (some ⟨Bm, 0, none⟩)]] w (NewL w (srt (es.map (·.1)))) := by
  have H := Lib.hid (collect_i Bm mo es hl w hBm hm hes)
  have HS := Lib.hid hS
  clear hm hes hS
  go_enter Try.func45, Try.ntmps45
  go_wp2_with fail
  refine H.out.mono ?_
  rintro e w1 ⟨v, xs, rfl, hp, ho, hnil, hB⟩
  have hsz := hp.length_eq
  have hsrt : srt xs = srt (es.map (·.1)) := by
    unfold srt
    exact List.Perm.eq_of_pairwise (le := fun x y => x ≤ y) (by intros; omega) (by simpa using List.pairwise_mergeSort (le := fun x y : Int => decide (x ≤ y)) (by simp; omega) (by simp; omega) xs)
      (by simpa using List.pairwise_mergeSort (le := fun x y : Int => decide (x ≤ y)) (by simp; omega) (by simp; omega) (es.map (·.1))) ((List.mergeSort_perm _ _).trans (hp.trans (List.mergeSort_perm _ _).symm))
  rcases ho.2 with ⟨rfl, h0⟩ | ⟨g, cap, cur, rfl, hg1, hg2, hg3, hg4, _, _⟩
  · have hx : xs = [] := hnil.1 rfl
    subst hx
    have H2 : Hid (NewL w (srt (es.map (·.1))) (.returned (.slice none 0 0)) w1) := by
      rw [← hsrt]
      exact ⟨none, 0, by simp [srt], by simp [srt], fun _ => rfl, fun k hk => by simp [srt] at hk, by simp, hB⟩
    clear hp ho hnil hB hsrt hsz H HS
    go_wp2_with (go_at_call 62; refine (sort_none _).mono ?_; rintro e w' ⟨rfl, rfl⟩)
    go_ret
    exact H2
  · have hrow := rowI_of_own ho
    have hl2 : xs.length = es.length := by simpa using hsz
    have HSo := HS.out w1 g cap xs.toArray hrow (by simpa using (by omega : xs.length ≤ N))
    simp only [List.size_toArray] at HSo
    rw [hsrt] at HSo
    have hlen : (srt (es.map (·.1))).length = xs.length := by rw [srt_length]; exact hsz.symm
    have HSo := Lib.hid HSo
    have hgl := lt_of_heap hg2
    have hfin : ∀ w2, RowI w2 g (srt (es.map (·.1))).toArray → Fr (· = g) w1 w2 → NewL w (srt (es.map (·.1))) (.returned (.slice (some ⟨g, 0, none⟩) xs.length cap)) w2 := fun w2 h1 h2 => by
      refine ⟨_, cap, by rw [hlen], by rw [hlen]; exact hg3, (by simp), rdT_of_rowI h1, fun ad e => ?_, ?_⟩
      · cases e; exact ⟨hg1, Nat.lt_of_lt_of_le hgl h2.size⟩
      · exact hB.trans (h2.below hB.size (fun k e => by rw [e]; exact hg1))
    replace hfin := Lib.hid hfin
    clear hp ho hnil hB hsrt hsz H HS hg1 hg2 hg3 hg4 hrow hl2 hlen hgl hN hl
    generalize hz : srt (es.map (·.1)) = zs at *
    replace hz := Lib.hid hz
    generalize xs.length = m at *
    go_wp2_with (go_at_call 62; refine HSo.out.mono ?_; rintro e w2 ⟨rfl, h1, h2⟩; replace h1 := Lib.hid h1; replace h2 := Lib.hid h2)
    go_ret
    rw [hz.out]
    exact hfin.out _ h1.out h2.out

theorem info3 : (Try.prog.info? 9).map (fun i => (i.zero, i.size, i.bytes)) = some (some (.string ⟨#[]⟩), 1, 16) := by kernel_rfl

/-- The frame of that statement. -/

def J1 (B : Nat) (w0 : World) (br bt b bw : Nat) (rv tv : Value) (rvals vals : List Value) (n : Nat) (p : List Int) (v rowv : Value) (L : Nat → Bool) (a : Act) (w : World) : Prop :=
  ∃ x13 x14 x15 x16 x17 x18 x19 x20 x21 x22 x23 x24, a = fr1 b br bt bw rowv x13 x14 x15 x16 x17 x18 x19 x20 x21 x22 x23 x24 ∧
    R1 43 73 9 B w0 br bt b rv tv rvals vals n p v rowv L w x13 x14 x15 x16 x17 x18 x19 x20 x21 x22 x23 x24

noncomputable def head43 : Code := match Try.f49.body with
  | some (.seq c _) => c
  | _ => .skip

set_option maxHeartbeats 1000000 in
set_option maxRecDepth 100000 in
theorem head_none (w : World) (t : Nat) (T : AT) (p : List Int) (b br bt bw : Nat) (rowv : Value) (K : Act → World → Prop) (Q : Exit → Act → World → Prop)
    (R : Rep Ls w t T) (hp : T.N p = some b) (hf : T.f p = none) (hK : ∀ y12 x13 x14 x15 x16 x17 x18 x19 x20 x21 x22 x23 x24, K (frW b br bt bw rowv y12 x13 x14 x15 x16 x17 x18 x19 x20 x21 x22 x23 x24) w) :
    head43.wp Try.prog (Exit.then K Q) (frH b br bt bw rowv) w := by
  obtain ⟨h0, h1, h2⟩ := node_cells R hp
  rw [hf] at h1 h2
  simp only [Option.isSome_none] at h2
  have hK' := Lib.hid hK
  clear hf hp hK R
  unfold head43 frH
  dsimp only [Try.f49]
  go_wp2
  exact hK'.out _ _ _ _ _ _ _ _ _ _ _ _ _

set_option maxHeartbeats 1000000 in
set_option maxRecDepth 100000 in
theorem head_some (B : Nat) (w : World) (t : Nat) (T : AT) (p : List Int) (b br bt bw : Nat) (A : Option Addr) (cap : Nat) (x : ByteArray) (rv tv : Value) (rvals vals : List Value) (rows : List (List Int)) (K : Act → World → Prop) (Q : Exit → Act → World → Prop)
    (R : Rep Ls w t T) (hp : T.N p = some b) (hbB : b < B) (hf : T.f p = some (.string x)) (hA : RdT w A p) (hn : A = none → cap = 0) (hl : p.length ≤ 35184372088832) (hC : Coll 43 73 9 B w br bt rv tv rvals vals rows)
    (hr : rows.length < 5864062014805) (hvl : vals.length < 5864062014805)
    (hK : ∀ w1 rv1 tv1 rvals1 y12 x13 x14 x15 x16 x17 x18 x19 x20 x21 x22 x23 x24, Coll 43 73 9 B w1 br bt rv1 tv1 rvals1 (vals ++ [.string x]) (rows ++ [p]) → FB [43, 73, 36, 9] B w w1 →
      K (frW b br bt bw (.slice A p.length cap) y12 x13 x14 x15 x16 x17 x18 x19 x20 x21 x22 x23 x24) w1) :
    head43.wp Try.prog (Exit.then K Q) (frH b br bt bw (.slice A p.length cap)) w := by
  obtain ⟨h0, h1, h2⟩ := node_cells R hp
  rw [hf] at h1 h2
  simp only [Option.getD_some, Option.isSome_some] at h1 h2
  obtain ⟨i0, hi0, hz0, hz1, hz2⟩ := info_parts info36
  obtain ⟨i3, hi3, hy0, hy1, hy2⟩ := info_parts info3
  have hf' := Lib.hid hf
  have HA := Lib.hid hA
  have hp' := Lib.hid hp
  have hK' := Lib.hid hK
  clear hf hp hA hK
  unfold head43 frH
  dsimp only [Try.f49]
  go_wp2
  refine wp_region_facts (by kernel_rfl) (by kernel_rfl) (J1 B w br bt b bw rv tv rvals vals rows.length p (.string x) (.slice A p.length cap)) ?_ ?_ ?_
  · refine ⟨undef, undef, undef, undef, undef, undef, undef, undef, undef, undef, undef, undef, rfl, ?_⟩
    exact { fb := FB.refl.drew, bx := fun _ => hC.box, bx' := (nomatch ·), tx := fun _ => hC.tbox, tx' := (nomatch ·), ow := fun _ => hC.own, tw := fun _ => hC.town, d4 := (nomatch ·), d11 := (nomatch ·), d12 := (nomatch ·), d13 := (nomatch ·), f0 := (nomatch ·), f1 := (nomatch ·), f2 := (nomatch ·), f3 := (nomatch ·), f4 := (nomatch ·), f5 := (nomatch ·), f6 := (nomatch ·), f7 := (nomatch ·), f8 := (nomatch ·), f9 := (nomatch ·), f10 := (nomatch ·), f11 := (nomatch ·) }
  · intro i o L a w1 ho hL hpre hJ
    have hi : i < 14 := by
      rcases Nat.lt_or_ge i 14 with h | h
      · exact h
      · rw [Array.getElem?_eq_none (by simpa using h)] at ho; cases ho
    obtain ⟨x13, x14, x15, x16, x17, x18, x19, x20, x21, x22, x23, x24, rfl, hR⟩ := hJ
    have hB := hR.fb.below (a := w) (by have := hC.box.lt; have := hC.hb; omega)
    have hnode : w1.cell? ⟨b, 1, none⟩ = some (.string x) := (hB.cell (p := ⟨b, 1, none⟩) hbB).trans h1
    have HA1 : RdT w1 A p := hR.fb.rdT HA.out (by simp)
    have HR := Lib.hid hR
    rcases (by omega : i = 0 ∨ i = 1 ∨ i = 2 ∨ i = 3 ∨ i = 4 ∨ i = 5 ∨ i = 6 ∨ i = 7 ∨ i = 8 ∨ i = 9 ∨ i = 10 ∨ i = 11 ∨ i = 12 ∨ i = 13) with rfl | rfl | rfl | rfl | rfl | rfl | rfl | rfl | rfl | rfl | rfl | rfl | rfl | rfl
    · cases ho
      have h12 : L 12 = false := by
        cases h : L 12 with
        | false => rfl
        | true => have := (hR.d12 h).2; rw [hL] at this; cases this
      have c1 := (hR.bx h12).cell
      clear hR hpre hB
      unfold fr1
      go_simp
      exact ⟨_, _, _, _, _, _, _, _, _, _, _, _, rfl, { HR.out with d12 := fun e => ⟨(HR.out.d12 e).1, rfl⟩, f0 := fun _ => rfl }⟩
    · cases ho
      clear hR hpre hB
      unfold fr1
      go_simp
      exact ⟨_, _, _, _, _, _, _, _, _, _, _, _, rfl, { HR.out with f1 := fun _ => rfl }⟩
    · cases ho
      simp [Region.binds] at hpre
      obtain rfl := hR.f1 hpre
      clear hR hB
      unfold fr1
      go_simp
      refine (clone_i w1 A cap p HA1.rd hl hn).mono ?_
      rintro e w2 ⟨A2, cap2, rfl, g1, g2, g3, g4, g5⟩
      have hR2 := HR.out.new g5
      exact ⟨_, _, _, _, _, _, _, _, _, _, _, _, rfl, { hR2 with f2 := fun _ => ⟨A2, cap2, rfl, g3, g2⟩ }⟩
    · cases ho
      simp [Region.binds] at hpre
      obtain ⟨A2, cap2, rfl, g1, g2⟩ := hR.f2 hpre
      have hpre0 : L 0 = true ∨ L 0 = false := by cases L 0 <;> simp
      have g3 := heap_alloc_eq w1 (.cells #[.slice A2 p.length cap2] 36)
      have hb2 : Below w1.heap.size w1 (w1.alloc (.cells #[.slice A2 p.length cap2] 36)) := (Below.refl _ _).alloc (Nat.le_refl _) _
      have hR2 := HR.out.new hb2
      have g1' := Lib.hid (RdT.new g1 hb2)
      have hne : Hid (rv.ownBlock ≠ some w1.heap.size) := fun e => by
        cases h4 : L 4 with
        | false => have := (own_lt (hR.ow h4) e).1; omega
        | true => have := hR.d4 h4; rw [hL] at this; cases this
      clear hR hB g1
      unfold fr1
      go_simp
      exact ⟨_, _, _, _, _, _, _, _, _, _, _, _, rfl, { hR2 with d4 := fun _ => rfl, f3 := fun _ => ⟨A2, cap2, _, rfl, g3, hne, g1'.out, g2⟩ }⟩
    · cases ho
      simp [Region.binds] at hpre
      obtain ⟨hq0, hq3, -⟩ := hpre
      obtain ⟨A2, cap2, bk, rfl, g1, g2, g3, g4⟩ := hR.f3 hq3
      obtain rfl := hR.f0 hq0
      have hown := hR.ow hL
      obtain ⟨v', w2, hrun, ho2, hg2, _⟩ := run_append_own (P := Try.prog) w1 B 43 43 36 i0 (.slice none 0 0) 1 24 Try.underlying43 hi0 hz0 hz1 hz2 rfl (by decide) _ _ _ hown ⟨bk, 0, none⟩ 1 1 [.slice A2 p.length cap2] rfl
        (World.news_of_block (cs := #[.slice A2 p.length cap2]) g1) (by simp [Value.oneCell']) (by unfold maxLen; omega) (by omega) (by have := hC.box.lt; have := hC.hb; have := hB.size; omega)
      have hR2 := HR.out.app1 hL hq3 rfl g3 g4 ho2 hg2 (by decide) (by decide) (by decide) (by decide)
      rw [if_pos (by rfl)]
      refine wp_append_run (.tmp 13) (.tmp 16) 43 rfl rfl rfl hrun ?_
      exact ⟨_, _, _, _, _, _, _, _, _, _, _, _, rfl, hR2⟩
    · cases ho
      have h13 : L 13 = false := by
        cases h : L 13 with
        | false => rfl
        | true => have := (hR.d13 h).2; rw [hL] at this; cases this
      have c1 := (hR.tx h13).cell
      clear hR hpre hB
      unfold fr1
      go_simp
      exact ⟨_, _, _, _, _, _, _, _, _, _, _, _, rfl, { HR.out with d13 := fun e => ⟨(HR.out.d13 e).1, rfl⟩, f5 := fun _ => rfl }⟩
    · cases ho
      clear hR hpre hB
      unfold fr1
      go_simp
      exact ⟨_, _, _, _, _, _, _, _, _, _, _, _, rfl, { HR.out with f6 := fun _ => rfl }⟩
    · cases ho
      simp [Region.binds] at hpre
      obtain rfl := hR.f6 hpre
      clear hR hpre hB
      unfold fr1
      go_simp
      exact ⟨_, _, _, _, _, _, _, _, _, _, _, _, rfl, { HR.out with f7 := fun _ => rfl }⟩
    · cases ho
      simp [Region.binds] at hpre
      obtain rfl := hR.f7 hpre
      clear hR hpre hB
      unfold fr1
      go_simp
      exact ⟨_, _, _, _, _, _, _, _, _, _, _, _, rfl, { HR.out with f8 := fun _ => rfl }⟩
    · cases ho
      simp [Region.binds] at hpre
      obtain rfl := hR.f8 hpre
      clear hR hpre hB
      unfold fr1
      go_simp
      exact ⟨_, _, _, _, _, _, _, _, _, _, _, _, rfl, { HR.out with f9 := fun _ => rfl }⟩
    · cases ho
      simp [Region.binds] at hpre
      obtain rfl := hR.f9 hpre
      have g3 := heap_alloc_eq w1 (.cells #[.string x] 9)
      have hb2 : Below w1.heap.size w1 (w1.alloc (.cells #[.string x] 9)) := (Below.refl _ _).alloc (Nat.le_refl _) _
      have hR2 := HR.out.new hb2
      have hne : Hid (tv.ownBlock ≠ some w1.heap.size) := fun e => by
        cases h4 : L 11 with
        | false => have := (own_lt (hR.tw h4) e).1; omega
        | true => have := hR.d11 h4; rw [hL] at this; cases this
      clear hR hB
      unfold fr1
      go_simp
      exact ⟨_, _, _, _, _, _, _, _, _, _, _, _, rfl, { hR2 with d11 := fun _ => rfl, f10 := fun _ => ⟨_, rfl, g3, hne⟩ }⟩
    · cases ho
      simp [Region.binds] at hpre
      obtain ⟨hq0, hq3, -⟩ := hpre
      obtain ⟨bk, rfl, g1, g2⟩ := hR.f10 hq3
      obtain rfl := hR.f5 hq0
      have hown := hR.tw hL
      obtain ⟨v', w2, hrun, ho2, hg2, _⟩ := run_append_own (P := Try.prog) w1 B 73 73 9 i3 (.string ⟨#[]⟩) 1 16 Try.underlying73 hi3 hy0 hy1 hy2 rfl (by decide) _ _ _ hown ⟨bk, 0, none⟩ 1 1 [.string x] rfl
        (World.news_of_block (cs := #[.string x]) g1) (by simp [Value.oneCell']) (by unfold maxLen; omega) (by omega) (by have := hC.box.lt; have := hC.hb; have := hB.size; omega)
      have hR2 := HR.out.app2 hL hq3 ho2 hg2 (by decide) (by decide) (by decide) (by decide)
      rw [if_pos (by rfl)]
      refine wp_append_run (.tmp 18) (.tmp 23) 73 rfl rfl rfl hrun ?_
      exact ⟨_, _, _, _, _, _, _, _, _, _, _, _, rfl, hR2⟩
    · cases ho
      have h4 : L 4 = true := hpre ⟨4, .data⟩ (by simp) rfl
      have h0 : L 0 = true := hpre ⟨0, .phase⟩ (by simp) rfl
      have hR2 := HR.out.st1 hL ⟨h4, h0⟩ hC.hb (by decide) (by decide) (by decide) (by decide)
      have c1 := (hR.bx hL).cell
      have c2 := (hR.bx hL).frozen
      obtain ⟨A2, cap2, ho4, _, _⟩ := hR.f4 h4
      obtain ⟨g, cap3, rfl⟩ := ownsRow_succ ho4
      clear hR hpre hB ho4
      unfold fr1
      go_simp
      exact ⟨_, _, _, _, _, _, _, _, _, _, _, _, rfl, hR2⟩
    · cases ho
      have h4 : L 11 = true := hpre ⟨11, .data⟩ (by simp) rfl
      have h0 : L 5 = true := hpre ⟨5, .phase⟩ (by simp) rfl
      have hR2 := HR.out.st2 hL ⟨h4, h0⟩ hC.hb2 (by decide) (by decide) (by decide) (by decide)
      have c1 := (hR.tx hL).cell
      have c2 := (hR.tx hL).frozen
      have ho4 := hR.f11 h4
      obtain ⟨g, cap3, rfl⟩ := ownsRow_succ ho4
      clear hR hpre hB ho4
      unfold fr1
      go_simp
      exact ⟨_, _, _, _, _, _, _, _, _, _, _, _, rfl, hR2⟩
  · rintro L a w1 hall ⟨x13, x14, x15, x16, x17, x18, x19, x20, x21, x22, x23, x24, rfl, hR⟩
    have hLL : ∀ i, i < 14 → L i = true := fun i hi => hall i (by simpa using hi)
    have hb1 := hR.bx' (hLL 12 (by omega))
    have hb2 := hR.tx' (hLL 13 (by omega))
    obtain ⟨A2, cap2, ho1, hz1, hz2⟩ := hR.f4 (hLL 4 (by omega))
    have ho2 := hR.f11 (hLL 11 (by omega))
    have hfb := hR.fb
    have hC1 : Coll 43 73 9 B w1 br bt x17 x24 (rvals ++ [.slice A2 p.length cap2]) (vals ++ [.string x]) (rows ++ [p]) :=
      ⟨hC.hb, hC.hb2, hb1, by simpa using ho1, (hC.are.frame hfb (by simp)).snoc hz1 hz2, hb2, by simpa using ho2⟩
    unfold fr1
    exact hK'.out _ _ _ _ _ _ _ _ _ _ _ _ _ _ _ _ _ hC1 hfb

end Go.Proofs.Ytioflglfnalcaaa.S

/- slices.AppendSeq, slices.Collect over maps.Keys' iterator. -/
import Derived.RangeFuncBox
import Derived.Maps.AppendAt
import Derived.Test.YtioflglfnalcaaaWe
namespace Go.Proofs.Ytioflglfnalcaaa
open Go.RowKit Go.Shelf
attribute [local go_sem] Oper.semAt_some

theorem KeepsOthers.walks' {W W' : World} (h : KeepsOthers W W') : KeepsWalks W W' := ⟨h.size, fun k o hk hw => h.same k o hk (Obj.not_cells_of_walk hw)⟩

theorem keys_stops_i (n : Nat) (hn : 1 ≤ n) (Bm : Nat) (mo : Option Nat) (es : List (Int × Value)) (w : World) (hBm : Bm < w.heap.size) (hm : w.cell? ⟨Bm, 0, none⟩ = some (.map mo)) (hes : MapIs w mo es) :
    SeqStops Fence.wide n Try.prog 63 #[.pointer (some ⟨Bm, 0, none⟩)] enc32 (fun xs => xs.Perm (es.map (·.1))) (fun _ => True) es.length w := fun l J Jx W hW hJ _ hY h0 => by
  refine keys1_i n hn l Bm mo es J Jx hY W hJ ((hW.cell (p := ⟨Bm, 0, none⟩) hBm).trans hm) ?_ h0
  cases mo with
  | none => exact hes
  | some m => exact (hW.block m (lt_of_heap hes)).trans hes

theorem info21 : (Try.prog.info? 21).map (fun i => (i.zero, i.size, i.bytes)) = some (some (.int .i32 0), 1, 4) := by kernel_rfl

set_option maxRecDepth 100000 in
set_option maxHeartbeats 2000000 in
theorem appendseq_i (n : Nat) (hn : 3 ≤ n) (Bm : Nat) (mo : Option Nat) (es : List (Int × Value)) (hl : es.length ≤ 35184372088832) (w : World) (hBm : Bm < w.heap.size) (hm : w.cell? ⟨Bm, 0, none⟩ = some (.map mo)) (hes : MapIs w mo es) :
    CallsIn Fence.wide n Try.prog 66 #[.slice none 0 0, .func (.func 63) #[] #[.pointer (some ⟨Bm, 0, none⟩)]] w fun e W' => ∃ v, ∃ xs : List Int, e = .returned v ∧ xs.Perm (es.map (·.1)) ∧ W'.ownsRow w.heap.size 21 1 v xs.length (xs.map enc32) ∧ (v = .slice none 0 0 ↔ xs = []) ∧ Below w.heap.size w W' := by
  have h1 : 1 ≤ n := by omega
  obtain ⟨i0, hi, hz0, hz1, hz2⟩ := info_parts info21
  have hbN : (w.alloc (.cells #[.slice none 0 0] 36)).cell? ⟨Bm, 0, none⟩ = some (.map mo) := (World.cell?_alloc_lt w _ ⟨Bm, 0, none⟩ hBm).trans hm
  have hesN : MapIs (w.alloc (.cells #[.slice none 0 0] 36)) mo es := by
    cases mo with
    | none => exact hes
    | some m => exact (heap_alloc_lt (lt_of_heap hes)).trans hes
  refine callsIn_of_wp_marks Try.func66 rfl trivial ?_ rfl
  simp only [Try.ntmps66, List.size_toArray, List.length_cons, List.length_nil, Nat.reduceAdd, Nat.reduceSub, Array.replicate_succ, Array.replicate_zero, List.push_toArray, List.append_toArray, List.nil_append, List.cons_append]
  have Hm := Lib.hid hm
  have HbN := Lib.hid hbN
  clear hm hbN
  gi_wp2
  have bO := Boxed.new w 36 (.slice none 0 0)
  have hB0 : Below w.heap.size w (w.alloc (.cells #[.slice none 0 0] 36)) := (Below.refl _ w).alloc (Nat.le_refl _) _
  refine wpIn_rangeFunc_ownG rfl h1 (gf := 63) (lb := #[.pointer (some ⟨Bm, 0, none⟩)]) rfl trivial (enters_of Try.func63 (by kernel_rfl) rfl)
    (keys_stops_i (n - 1) (by omega) Bm mo es _ (by simp; omega) HbN.out hesN) walksK_t walksK_b (Below.refl _ _) (fun _ => rfl)
    (fun pre W => (∃ v, Boxed W w.heap.size 36 v ∧ W.ownsRow w.heap.size 21 1 v pre.length (pre.map enc32) ∧ (v = .slice none 0 0 ↔ pre = [])) ∧ Below w.heap.size w W)
    (fun _ _ _ => False)
    (OwnFrom.and (Own.from (holdsRow_own w.heap.size w.heap.size 36 21 1 (fun pre => pre.length) (fun pre => pre.map enc32) (fun pre v => v = .slice none 0 0 ↔ pre = [])) _) (ownFrom_below (Nat.le_refl _) (by simp)))
    (fun _ _ _ _ _ hs _ _ => hs)
    ⟨⟨_, bO, World.ownsRow_nil _ _ _ _, by simp⟩, hB0⟩
    (fun x => { tmps := #[.slice none 0 0, .func (.func 63) #[] #[.pointer (some ⟨Bm, 0, none⟩)], .pointer (some ⟨w.heap.size, 0, none⟩), undef, .slice none 0 0, .int .i32 x, .func (.func 63) #[] #[.pointer (some ⟨Bm, 0, none⟩)], .int .i32 x, undef, undef, undef, undef, undef], defers := [] }) ?assign ?body ?done ?stop
  case assign =>
    intro l x W K hK
    simp only [enc32]
    gi_wp2
    exact hK
  case body =>
    rintro l pre x W ⟨⟨v, hv, hrow, hnil⟩, hB⟩ hlt
    have hc := hv.cell
    have hnil' := Lib.hid hnil
    clear hnil
    gi_wp2_with (gi_at_builtin; refine wpListIn_append_own _ rfl _ _ 36 rfl w.heap.size 21 i0 (.int .i32 0) 1 4 Try.underlying36 hi hz0 hz1 hz2 rfl (by decide) _ _ _ rfl (hrow.alloc _) ⟨W.heap.size, 0, none⟩ 1 1 [.int .i32 x] rfl rfl (cell_one_new _ _ _) (by simp [Value.oneCell']) (by unfold maxLen; omega) (by omega) (by have := hB.size; simp; omega) ?_; intro v' w1 hown' hgrow _; obtain ⟨g', cap', rfl⟩ := ownsRow_succ hown'; obtain ⟨hv1, hv2, hr2, hk2, hb2⟩ := hv.appended (by decide) hrow hB.size (Nat.le_refl _) hown' hgrow; have hc1 := hv1.cell; have hf1 := hv1.frozen)
    exact ⟨hk2.from _, KeepsOthers.walks' hk2, ⟨_, hv2, by simpa [enc32] using hr2, by simp⟩, hB.trans hb2⟩
  case done =>
    rintro D ys W hD hS ⟨⟨v, hv, hrow, hnil⟩, hB⟩ hK
    have hc := hv.cell
    have hnil' := Lib.hid hnil
    have hK' := Lib.hid hK
    clear hnil hK
    gi_wp2
    refine ⟨by simp, .inl ⟨_, _, rfl, run_takeDeferred hK'.out, ?_⟩⟩
    exact ⟨_, results_tmp rfl _ _ _, v, ys, rfl, hS, ownsRow_putObj hrow _ hK'.out rfl, hnil'.out, hB.trans (belowK_b (w := w) (Nat.le_refl _) W D _ _ (by simp at hD; omega) hK'.out rfl rfl)⟩
  case stop =>
    rintro D c pre W _ _ h _
    exact h.elim

set_option maxHeartbeats 400000 in
theorem collect_i (Bm : Nat) (mo : Option Nat) (es : List (Int × Value)) (hl : es.length ≤ 35184372088832) (w : World) (hBm : Bm < w.heap.size) (hm : w.cell? ⟨Bm, 0, none⟩ = some (.map mo)) (hes : MapIs w mo es) :
    Calls Try.prog 61 #[.func (.func 63) #[] #[.pointer (some ⟨Bm, 0, none⟩)]] w fun e W' => ∃ v, ∃ xs : List Int, e = .returned v ∧ xs.Perm (es.map (·.1)) ∧ W'.ownsRow w.heap.size 21 1 v xs.length (xs.map enc32) ∧ (v = .slice none 0 0 ↔ xs = []) ∧ Below w.heap.size w W' := by
  have H := Lib.hid (callsIn_wide.1 (appendseq_i 5 (by omega) Bm mo es hl w hBm hm hes))
  clear hm hes
  go_enter Try.func61, Try.ntmps61
  go_wp2_with (go_at_call 66; refine H.out.mono ?_; rintro e w' ⟨v, xs, rfl, h1, h2, h3, h4⟩; replace h3 := Lib.hid h3)
  go_ret
  exact ⟨v, xs, rfl, h1, h2, h3.out, h4⟩

/-- maps.Keys: a function value over one new block. -/
theorem keys_i (mo : Option Nat) (w : World) :
    Calls Try.prog 46 #[.map mo] w fun e w' => e = .returned (.func (.func 63) #[] #[.pointer (some ⟨w.heap.size, 0, none⟩)]) ∧ w' = w.alloc (.cells #[.map mo] 74) := by
  go_enter Try.func46, Try.ntmps46
  go_wp2
  go_ret
  exact ⟨rfl, rfl⟩
end Go.Proofs.Ytioflglfnalcaaa

/- slices.Clone at int32. -/
import Derived.Deep.AppendLies
import Derived.Test.YtioflglfnalcaaaSb
namespace Go.Proofs.Ytioflglfnalcaaa
open Go.RowKit

theorem newL_of_own {w w' : World} {v : Value} {zs : List Int} (h : w'.ownsRow w.heap.size 21 1 v zs.length (zs.map enc32)) (hb : Below w.heap.size w w') : NewL w zs (.returned v) w' := by
  rcases h.2 with ⟨rfl, h0⟩ | ⟨g, cap, cur, rfl, hg1, hg2, hg3, hg4, _, _⟩
  · have : zs = [] := List.eq_nil_of_length_eq_zero h0
    subst this
    exact ⟨none, 0, rfl, by simp, fun _ => rfl, RdT.nil _ _, by simp, hb⟩
  · refine ⟨_, cap, rfl, hg3, (by simp), rdT_of_rowI (rowI_of_own h), fun ad e => ?_, hb⟩
    cases e; exact ⟨hg1, lt_of_heap hg2⟩

/-- The same, and the memory is its own. -/
def NewO (w : World) (zs : List Int) (e : Ending) (w' : World) : Prop :=
  ∃ A cap, e = .returned (.slice A zs.length cap) ∧ zs.length ≤ cap ∧ (A = none → cap = 0) ∧ RdT w' A zs ∧ (∀ ad, A = some ad → w.heap.size ≤ ad.block ∧ ad.block < w'.heap.size) ∧ Below w.heap.size w w' ∧ w'.ownsRow w.heap.size 21 1 (.slice A zs.length cap) zs.length (zs.map enc32)
theorem newO_of_own {w w' : World} {v : Value} {zs : List Int} (h : w'.ownsRow w.heap.size 21 1 v zs.length (zs.map enc32)) (hb : Below w.heap.size w w') : NewO w zs (.returned v) w' := by
  obtain ⟨A, cap, he, h1, h2, h3, h4, h5⟩ := newL_of_own h hb
  injection he with he
  subst he
  exact ⟨A, cap, rfl, h1, h2, h3, h4, h5, h⟩

theorem wp_append_run {P : Program} {w : World} {o : Oper} {a : Act} {K : Act → World → Prop} {Q : Exit → Act → World → Prop} (s x : Operand) (t : TypeId)
    (ho : o.op = .call { callee := .builtin .append, args := #[s, x], argTypes := #[t, t] }) {v y v' : Value} {w' : World} (hs : a.eval s = v) (hx : a.eval x = y)
    (hrun : (Builtin.append_ #[t, t] o.type #[v, y]).run P w = .ok v' w') (h : K (a.put o.dst v') w') : o.wp P a w K Q := by
  unfold Oper.wp execOp
  simp only [ho, resolve, invoke, builtin, Sem.run_bind, Sem.run_pure, Result.andThen_ok, List.map_toArray, List.map_cons, List.map_nil, hs, hx, hrun]
  exact h
/-- An append whose run is known. -/
theorem wpList_append_run {P : Program} {w : World} {ops : Array Oper} {rest : List Oper} {o : Oper} {a : Act} {Q : Exit → Act → World → Prop} (hgd : o.guard = none) (s x : Operand) (t : TypeId)
    (ho : o.op = .call { callee := .builtin .append, args := #[s, x], argTypes := #[t, t] }) {v y v' : Value} {w' : World} (hs : a.eval s = v) (hx : a.eval x = y)
    (hrun : (Builtin.append_ #[t, t] o.type #[v, y]).run P w = .ok v' w') (h : wpList P ops Q rest (a.put o.dst v') w') : wpList P ops Q (o :: rest) a w :=
  wpList_plain hgd fun K hK => by
    unfold Oper.wp execOp
    simp only [ho, resolve, invoke, builtin, Sem.run_bind, Sem.run_pure, Result.andThen_ok, List.map_toArray, List.map_cons, List.map_nil, hs, hx, hrun]
    exact hK _ _ h

theorem addr_add (b off j : Nat) : (⟨b, off, none⟩ : Addr).add j = ⟨b, off + j, none⟩ := by
  unfold Addr.add
  split
  · rename_i h; rw [h]; rfl
  · rfl
theorem rdI_cells {w : World} {ad : Addr} {zs : List Int} (h : RdI w (some ad) zs) : ∀ j u, (zs.map enc32)[j]? = some u → w.cell? (ad.add j) = some u := fun j u hu => by
  have hj : j < zs.length := by
    rcases Nat.lt_or_ge j zs.length with h1 | h1
    · exact h1
    · rw [List.getElem?_eq_none (by simpa using h1)] at hu; cases hu
  obtain ⟨b, off, e, hc⟩ := h j hj
  cases e
  rw [addr_add, hc]
  rw [← hu]
  simp [List.getD, hj, enc32]
theorem one_cells (zs : List Int) : ∀ u ∈ zs.map enc32, u.oneCell' = true := fun u hu => by
  obtain ⟨x, _, rfl⟩ := List.mem_map.1 hu; rfl
theorem ownsRow_empty (w : World) (base : Nat) (hb : base ≤ w.heap.size) : (w.alloc (.cells #[] 21)).ownsRow base 21 1 (.slice (some ⟨w.heap.size, 0, none⟩) 0 0) 0 [] :=
  ⟨rfl, .inr ⟨w.heap.size, 0, #[], rfl, hb, heap_alloc_eq _ _, by omega, by unfold maxLen; omega, rfl, rfl⟩⟩

set_option maxHeartbeats 400000 in
set_option maxRecDepth 100000 in
theorem clone_o (w : World) (A : Option Addr) (cap : Nat) (zs : List Int) (hr : RdI w A zs) (hl : zs.length ≤ 35184372088832) (hn : A = none → cap = 0) :
    Calls Try.prog 44 #[.slice A zs.length cap] w (NewO w zs) := by
  cases A with
  | none =>
    have hz : zs = [] := by
      cases zs with
      | nil => rfl
      | cons x zs => obtain ⟨b, off, e, _⟩ := hr 0 (by simp); cases e
    subst hz
    have h0 := hn rfl
    subst h0
    have H2 : Hid (NewO w [] (.returned (.slice none 0 0)) w) := newO_of_own (World.ownsRow_nil _ _ _ _) (Below.refl _ _)
    have hE := fun W : World => Lib.run_eql_slice_nil (P := Try.prog) W 36 21 none 0 0 0 0 Try.underlying36
    clear hr hn
    go_enter Try.func44, Try.ntmps44
    go_wp2
    go_ret
    exact H2
  | some ad =>
    obtain ⟨i0, hi, hz0, hz1, hz2⟩ := info_parts info21
    have hE := fun W : World => Lib.run_eql_slice_nil (P := Try.prog) W 36 21 (some ad) zs.length cap 0 0 Try.underlying36
    have hr2 : RdI (w.alloc (.cells #[] 21)) (some ad) zs := hr.frame ((Fr.refl Nob w).alloc _) (fun _ _ _ h => h)
    obtain ⟨v', w', hrun, hown, hgrow, _⟩ := run_append_own (P := Try.prog) (w.alloc (.cells #[] 21)) w.heap.size 36 36 21 i0 (.int .i32 0) 1 4 Try.underlying36 hi hz0 hz1 hz2 rfl (by decide) _ 0 [] (ownsRow_empty w _ (Nat.le_refl _)) ad zs.length cap (zs.map enc32)
      (by simp) (rdI_cells hr2) (one_cells zs) (by unfold maxLen; omega) (by omega) (by simp)
    have H2 : Hid (NewO w zs (.returned v') w') := newO_of_own (by simpa using hown) (((Below.refl _ _).alloc (Nat.le_refl _) _).grown hgrow (by simp) (fun k e => by cases e; exact Nat.le_refl _))
    replace hrun := Lib.hid hrun
    clear hr hn hr2 hown hgrow hi hz0 hz1 hz2
    go_enter Try.func44, Try.ntmps44
    go_wp2_with (at_builtin; refine wpList_append_run rfl (.tmp 5) (.tmp 6) 36 rfl rfl rfl hrun.out ?_)
    go_ret
    exact H2

theorem clone_i (w : World) (A : Option Addr) (cap : Nat) (zs : List Int) (hr : RdI w A zs) (hl : zs.length ≤ 35184372088832) (hn : A = none → cap = 0) :
    Calls Try.prog 44 #[.slice A zs.length cap] w (NewL w zs) :=
  (clone_o w A cap zs hr hl hn).mono fun _ _ ⟨A', cap', h1, h2, h3, h4, h5, h6, _⟩ => ⟨A', cap', h1, h2, h3, h4, h5, h6⟩

theorem nextcap_le (n : Nat) : Builtin.nextslicecap (n + 1) n ≤ 2 * n + 256 := by
  unfold Builtin.nextslicecap
  split
  · omega
  · split
    · omega
    · have e : Builtin.growBy (n + 1) 4 n = n + (n + 768) / 4 := by
        rw [Builtin.growBy, if_neg (by omega), Builtin.growBy, if_pos (by omega)]
      rw [e]; omega

/-- One number appended to a list that has no room: a new list. -/
theorem run_append_one {w : World} {A : Option Addr} {zs : List Int} {r : Int} {bk : Nat} (hr : RdI w A zs) (hn : A = none → zs = []) (hbk : w.heap[bk]? = some (.cells #[.int .i32 r] 21 (0, 0))) (hl : zs.length ≤ 35184372088000) :
    ∃ cap w', (Builtin.append_ #[36, 36] 36 #[.slice A zs.length zs.length, .slice (some ⟨bk, 0, none⟩) 1 1]).run Try.prog w = .ok (.slice (some ⟨w.heap.size, 0, none⟩) (zs.length + 1) cap) w' ∧
      RdT w' (some ⟨w.heap.size, 0, none⟩) (zs ++ [r]) ∧ Below w.heap.size w w' ∧ zs.length + 1 ≤ cap := by
  obtain ⟨i0, hi, hz0, hz1, hz2⟩ := info_parts info21
  have hc : ∀ j u, [Value.int .i32 r][j]? = some u → w.cell? ((⟨bk, 0, none⟩ : Addr).add j) = some u := World.news_of_block (cs := #[.int .i32 r]) hbk
  cases A with
  | none =>
    have hz := hn rfl
    subst hz
    have h := run_append_nil (P := Try.prog) w 36 36 21 i0 (.int .i32 0) Try.underlying36 hi hz0 ⟨bk, 0, none⟩ 1 1 [.int .i32 r] (by simp [hz1]) hc (by omega) (by omega) (by rw [hz2]; omega)
    refine ⟨_, _, h, ?_, ((Below.refl _ w).drew.alloc (Nat.le_refl _) _), grownCap_ge w 1 0 21⟩
    have h2 := heap_alloc_eq w.drew (.cells ([Value.int .i32 r].toArray ++ Builtin.zeroCells (Value.cells (.int .i32 0)) (grownCap w 1 0 21 - 1)) 21)
    intro k hk
    have hk0 : k = 0 := by simpa using hk
    subst hk0
    exact ⟨w.heap.size, 0, _, _, rfl, h2, by rw [Array.getElem?_append_left (by simp)]; rfl⟩
  | some ad =>
    have h := run_append_grow (P := Try.prog) w 36 36 21 i0 (.int .i32 0) Try.underlying36 hi hz0 ad zs.length zs.length (zs.map enc32) (by simp [hz1]) (rdI_cells hr) ⟨bk, 0, none⟩ 1 1 [.int .i32 r] (by simp [hz1]) hc (by omega) (by omega)
      (by rw [hz2]; have := nextcap_le zs.length; omega)
    refine ⟨_, _, h, ?_, ((Below.refl _ w).drew.alloc (Nat.le_refl _) _), grownCap_ge w (zs.length + 1) zs.length 21⟩
    have h2 := heap_alloc_eq w.drew (.cells ((zs.map enc32).toArray ++ [Value.int .i32 r].toArray ++ Builtin.zeroCells (Value.cells (.int .i32 0)) (grownCap w (zs.length + 1) zs.length 21 - (zs.length + 1))) 21)
    intro k hk
    refine ⟨w.heap.size, 0, _, _, rfl, h2, ?_⟩
    have hk' : k < zs.length + 1 := by simpa using hk
    rw [Array.getElem?_append_left (by simpa using hk')]
    rcases Nat.lt_or_ge k zs.length with hlt | hge
    · simp [hlt, List.getD, enc32, List.getElem?_append]
    · have e : k = zs.length := by omega
      subst e
      simp [List.getD]
end Go.Proofs.Ytioflglfnalcaaa

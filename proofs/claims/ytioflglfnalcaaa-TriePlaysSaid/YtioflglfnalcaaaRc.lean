/- TrieRises: the walk. -/
import Derived.RegionIn
import Derived.OwnWalkIn
import Derived.TacticsInMore
import Derived.StillTailTactics
import Derived.Sort.QuietIn
import Derived.Sort.CutIn
import Derived.Test.YtioflglfnalcaaaQr
import Derived.Test.YtioflglfnalcaaaRe
namespace Go.Proofs.Ytioflglfnalcaaa
open Go.RowKit

attribute [local go_sem] Oper.semAt_some

theorem run_eql_funcs_nil (W : World) (a b : Array Value) : (binOp BinOp.eql 54 (.func (.func 52) a b) .nilFunc).run Try.prog W = .ok (.bool false) W := by kernel_rfl

theorem conv_strI {W : World} {A : Option Addr} {cap : Nat} {p : List Int} (h : RdI W A p) : (convert 36 9 (.slice A p.length cap)).run Try.prog W = .ok (.string (runesBytes p)) W := by
  cases A with
  | none =>
    have hz : p = [] := by
      cases p with
      | nil => rfl
      | cons x p => obtain ⟨b, off, e, _⟩ := h 0 (by simp); cases e
    subst hz
    exact run_convert_runes_nil W 36 9 21 _ _ Try.underlying36 Try.underlying21 Try.underlying9
  | some a =>
    have h2 := run_convert_runes (P := Try.prog) W 36 9 21 a p.length cap p (Nat.le_refl _) Try.underlying36 Try.underlying21 Try.underlying9 (fun j hj => by
      obtain ⟨b, off, e, hcc⟩ := h j hj
      cases e
      rw [addr_add]; exact hcc)
    rwa [List.take_length] at h2

theorem sel_le_k (res : List (List Int × Value)) (head : List Int) (k : Nat) : (sel res head k).length ≤ k := by
  unfold sel
  refine Nat.le_trans (List.length_filter_le _ _) ?_
  simp only [List.length_map, List.length_take]
  omega
/-- An append whose run is known, inside a fence. -/
theorem wpListIn_append_run {F : Fence} {n : Nat} {P : Program} {w : World} {ops : Array Oper} {rest : List Oper} {o : Oper} {a : Act} {Q : Exit → Act → World → Prop} (hgd : o.guard = none) (s x : Operand) (t : TypeId)
    (ho : o.op = .call { callee := .builtin .append, args := #[s, x], argTypes := #[t, t] }) {v y v' : Value} {w' : World} (hs : a.eval s = v) (hx : a.eval x = y)
    (hrun : (Builtin.append_ #[t, t] o.type #[v, y]).run P w = .ok v' w') (h : wpListIn F n P ops Q rest (a.put o.dst v') w') : wpListIn F n P ops Q (o :: rest) a w := by
  refine wpListIn_plain hgd fun K hK' => ?_
  unfold Oper.wpIn
  refine ⟨?_, ?_⟩
  · simp [Oper.about, ho, resolve, Target.leads, Sem.run_pure]
  · rw [Oper.semAt_plain F _ _ (by rw [ho]; intro c hc'; cases hc')]
    simp [execOp, ho, resolve, invoke, builtin, hs, hx, hrun, Result.andThen]
    exact hK' _ _ h

/-- The puts, so many being over. -/
def PRel (w0 : World) (t tb : Nat) (rows : List (List Int)) (k : Nat) (wr : World) : Prop :=
  ∃ ps D m T, ps.length ≤ k ∧ m ≤ k ∧ D ≤ 35184372087808 ∧ St Ls w0 t (putsS rows k) ps D m T wr ∧ Boxed wr tb 51 (ptr t) ∧ ¬ T.own tb ∧ w0.heap.size ≤ tb

theorem PRel.fr {w0 : World} {t tb : Nat} {rows : List (List Int)} {k : Nat} {w w' : World} (h : PRel w0 t tb rows k w) (hf : Fr Nob w w') : PRel w0 t tb rows k w' := by
  obtain ⟨ps, D, m, T, h1, h2, h3, S, h5, h6, h7⟩ := h
  exact ⟨ps, D, m, T, h1, h2, h3, S.fr hf, boxed_fr h5 hf, h6, h7⟩
theorem PRel.box {w0 : World} {t tb : Nat} {rows : List (List Int)} {k : Nat} {w : World} (h : PRel w0 t tb rows k w) : Boxed w tb 51 (ptr t) := by
  obtain ⟨ps, D, m, T, h1, h2, h3, S, h5, h6, h7⟩ := h
  exact h5
theorem PRel.below {w0 : World} {t tb : Nat} {rows : List (List Int)} {k : Nat} {w : World} (h : PRel w0 t tb rows k w) : Below w0.heap.size w0 w := by
  obtain ⟨ps, D, m, T, h1, h2, h3, S, h5, h6, h7⟩ := h
  exact S.below
theorem putsS_str (rows : List (List Int)) (k : Nat) : ∀ p v, putsS rows k p = some v → ∃ x, v = .string x := fun _ _ h => ⟨_, putsS_val h⟩
theorem PRel.below_call {w0 : World} {t tb : Nat} {rows : List (List Int)} {k : Nat} {w : World} (h : PRel w0 t tb rows k w) (hk : k ≤ 5864062014805) (A : Option Addr) (cap : Nat) (zs : List Int) (hr : RdI w A zs) (hn : A = none → cap = 0) (hlen : zs.length ≤ 35184372087808) :
    ∃ res, Calls Try.prog 20 #[ptr t, .slice A zs.length cap] w (BelowPost 43 73 9 52 w res) := by
  obtain ⟨ps, D, m, T, h1, h2, h3, S, h5, h6, h7⟩ := h
  exact ⟨_, sts_below S h3 (by omega) (by omega) (putsS_str rows k) A cap zs hr hn hlen⟩
theorem PRel.all_call {w0 : World} {t tb : Nat} {rows : List (List Int)} {k : Nat} {w : World} (h : PRel w0 t tb rows k w) (hk : k ≤ 5864062014805) :
    ∃ res, Calls Try.prog 19 #[ptr t] w (BelowPost 43 73 9 52 w res) := by
  obtain ⟨ps, D, m, T, h1, h2, h3, S, h5, h6, h7⟩ := h
  exact ⟨_, sts_all S h3 (by omega) (by omega) (putsS_str rows k)⟩

set_option maxHeartbeats 4000000 in
set_option maxRecDepth 100000 in
theorem rises_law (n : Nat) (w : World) (Av Al : Option Addr) (cap capl : Nat) (rows : List (List Int)) (l : List Int) (hr : RdRows4 w Av rows) (hl : RdI w Al l) (hln : Al = none → capl = 0) (hll : l.length ≤ 35184372087808) (hn : rows.length ≤ 5864062014805) :
    CallsIn Fence.wide n Try.prog 5 #[.slice Av rows.length cap, .slice Al l.length capl] w (WorksP w) := by
  have hE := run_eql_funcs_nil
  obtain ⟨w0, hw0⟩ : ∃ w0, w0 = (w.alloc (.cells #[.slice Al l.length capl] 36)).alloc (.cells #[.bool false] 4) := ⟨_, rfl⟩
  have hbox1 : Boxed w0 w.heap.size 36 (.slice Al l.length capl) := by
    have := heap_alloc_eq w (.cells #[.slice Al l.length capl] 36)
    rw [hw0]; exact heap_alloc_old2 this
  have hbox2 : Boxed w0 (w.heap.size + 1) 4 (.bool false) := by
    have := heap_alloc_eq (w.alloc (.cells #[.slice Al l.length capl] 36)) (.cells #[.bool false] 4)
    rw [hw0]; simpa [Boxed] using this
  have hb0 : Below w.heap.size w w0 := by rw [hw0]; exact ((Below.refl _ _).alloc (Nat.le_refl _) _).alloc (by simp) _
  have hsz0 : w0.heap.size = w.heap.size + 2 := by rw [hw0]; simp
  have Hr := Lib.hid hr
  have Hl := Lib.hid hl
  have Hln := Lib.hid hln
  replace hbox1 := Lib.hid hbox1
  replace hbox2 := Lib.hid hbox2
  replace hw0 := Lib.hid hw0
  replace hb0 := Lib.hid hb0
  clear hr hl hln
  refine callsIn_of_wp_marks Try.func5 rfl trivial ?_ rfl
  simp only [Try.ntmps5, List.size_toArray, List.length_cons, List.length_nil, Nat.reduceAdd, Nat.reduceSub, Array.replicate_succ, Array.replicate_zero, List.push_toArray, List.append_toArray, List.nil_append, List.cons_append]
  gi_wp2_with fail
  rw [← hw0.out]
  refine callR (stn_s w0) ?_
  rintro e w1 ⟨t, rfl, S0⟩
  obtain ⟨w2, hw2⟩ : ∃ w2, w2 = w1.alloc (.cells #[ptr t] 51) := ⟨_, rfl⟩
  have hb2 : Below w1.heap.size w1 w2 := by rw [hw2]; exact (Below.refl _ _).alloc (Nat.le_refl _) _
  have P0 : Hid (PRel w0 t w1.heap.size rows 0 w2) := Lib.hid ⟨[], 0, 0, _, Nat.le_refl _, Nat.le_refl _, by omega, S0.new hb2, by rw [hw2]; exact heap_alloc_eq _ _, fun ho => by have := S0.rep.lt ho; omega, S0.below.size⟩
  replace hw2 := Lib.hid hw2
  clear S0 hb2
  gi_wp2_with fail
  rw [← hw2.out]
  clear hw2
  generalize w1.heap.size = tb at *
  have hbx : Hid (∀ W, Below w0.heap.size w0 W → Boxed W w.heap.size 36 (.slice Al l.length capl) ∧ RdI W Al l ∧ RdRows4 W Av rows) := Lib.hid fun W hW => by
    have hb := hb0.out.trans (hW.mono (by omega))
    exact ⟨(hW.block _ (by omega)).trans hbox1.out, rdI_below Hl.out hb, rdRows_below Hr.out.1 hb, Hr.out.2⟩
  refine callR (works_i w2) ?_
  rintro e w3 ⟨rfl, hb3⟩
  have P1 := Lib.hid (P0.out.fr (Fr.of_below hb3 Nob))
  have ct := P1.out.box.cell
  obtain ⟨res1, hall⟩ := P1.out.all_call (by omega)
  replace hall := Lib.hid hall
  clear P0 hb3
  gi_wp2_with fail
  refine callR hall.out ?_
  rintro e w4 ⟨br, bt, rv, tv, rvals, rfl, -, hb4⟩
  have P2 := Lib.hid (P1.out.fr (Fr.of_below hb4 Nob))
  replace ct := P2.out.box.cell
  obtain ⟨hh1, hh2, hh3⟩ := hbx.out _ P2.out.below
  have ch := hh1.cell
  obtain ⟨res2, hbel⟩ := P2.out.below_call (by omega) Al capl l hh2 Hln.out hll
  replace hbel := Lib.hid hbel
  clear P1 hb4 hall hh1 hh2 hh3
  gi_wp2_with fail
  refine callR hbel.out ?_
  rintro e w5 ⟨br2, bt2, rv2, tv2, rvals2, rfl, -, hb5⟩
  have P3 := Lib.hid (P2.out.fr (Fr.of_below hb5 Nob))
  clear P2 hb5 hbel ct ch
  gi_wp2_with fail
  gi_loopw [6] (fun i wr => ∃ k : Nat, k ≤ rows.length ∧ i = .int .i64 k ∧ Hid (PRel w0 t tb rows k wr)) (fun i _ => rows.length - (intOf i).toNat)
  case atStart => exact ⟨0, Nat.zero_le _, rfl, P3⟩
  case round =>
    clear P3
    obtain ⟨k, hk, rfl, P⟩ := hrel
    have ct := P.out.box.cell
    by_cases hlt : k < rows.length
    · obtain ⟨hh1, hh2, hh3⟩ := hbx.out _ P.out.below
      obtain ⟨b, off, A, c, rfl, hcw, hrdw, hle⟩ := Hr.out.1 k hlt
      have hle4 := hh3.2 k hlt
      have hbw : Below w.heap.size w wr := hb0.out.trans (P.out.below.mono (by omega))
      have hc := (hbw.cell (p := ⟨b, off + k, none⟩) (cell_lt hcw)).trans hcw
      have hrd := rdI_below hrdw hbw
      have hcv0 := conv_strI (cap := c) hrd
      have hcv1 := conv_strI (W := wr.drew) (cap := c) hrd
      obtain ⟨ps, D, m, T, h1, h2, h3, S, h5, h6, h7⟩ := P.out
      have hput := stf_put_s (S.drewN 1) A c (rows.getD k []) (runesBytes (rows.getD k [])) hle hrd (fun ad e hz ho => by
        have h1 := rdI_lt hrdw ad e hz
        have h2 := S.own _ ho
        omega) (by omega) rfl rfl (D' := 35184372087808) h3 hle4
      have hnext : Hid (∀ e w', PutFs w0 t (putsS rows k (rows.getD k [])).isSome (fun q => if q = rows.getD k [] then some (.string (runesBytes (rows.getD k []))) else putsS rows k q)
          (if (putsS rows k (rows.getD k [])).isSome = true then ps else rows.getD k [] :: ps) 35184372087808 (m + 1) T (wr.drewN 1) e w' → PRel w0 t tb rows (k + 1) w') := Lib.hid fun e w' ⟨_, T', g1, g2, g3⟩ => by
        refine ⟨_, _, _, T', ?_, (by omega : m + 1 ≤ k + 1), Nat.le_refl _, g1, g2.heap h5 h6, fun ho => ?_, h7⟩
        · split
          · omega
          · simp only [List.length_cons]; omega
        · rcases g3 _ ho with h | h
          · exact h6 h
          · have h8 := lt_of_heap h5
            have h9 : (wr.drewN 1).heap.size = wr.heap.size := rfl
            omega
      replace hput := Lib.hid hput
      clear S hh1 hh2 hh3 hrd P hcw hrdw hbw
      have hk1 : (0 : Int) ≤ (k : Int) := by omega
      have hk2 : (k : Int) < (rows.length : Int) := by omega
      generalize runesBytes (rows.getD k []) = rb at *
      generalize rows.getD k [] = zs at *
      generalize (putsS rows k zs).isSome = bb at *
      refine wpIn_wide.2 ?_
      go_wp2
      go_still_tail 10, (by kernel_rfl)
      change wpList _ _ _ _ _ wr.drew
      go_wp2_with fail
      refine hput.out.mono ?_
      intro e w6 hq
      have hk3 := Lib.hid (hnext.out _ _ hq)
      obtain ⟨rfl, -⟩ := hq
      clear hput hnext
      go_wp2
      exact ⟨⟨k + 1, by omega, by simp, hk3⟩, by simp [intOf]; omega⟩
    · have hkk : k = rows.length := by omega
      subst hkk
      obtain ⟨w6, hw6⟩ : ∃ w6, w6 = ((wr.alloc (.cells #[.int .i64 0] 3)).alloc (.cells #[.slice none 0 0] 36)).alloc (.cells #[.slice none 0 0] 43) := ⟨_, rfl⟩
      have hb6 : Below wr.heap.size wr w6 := by rw [hw6]; exact (((Below.refl _ _).alloc (Nat.le_refl _) _).alloc (by simp) _).alloc (by simp; omega) _
      have hx1 : Boxed w6 wr.heap.size 3 (.int .i64 0) := by
        have := heap_alloc_eq wr (.cells #[.int .i64 0] 3)
        rw [hw6]; exact heap_alloc_old2 (heap_alloc_old2 this)
      have hx2 : Boxed w6 (wr.heap.size + 1) 36 (.slice none 0 0) := by
        have := heap_alloc_eq (wr.alloc (.cells #[.int .i64 0] 3)) (.cells #[.slice none 0 0] 36)
        rw [hw6]; exact heap_alloc_old2 (by simpa using this)
      have hx3 : Boxed w6 (wr.heap.size + 1 + 1) 43 (.slice none 0 0) := by
        have := heap_alloc_eq ((wr.alloc (.cells #[.int .i64 0] 3)).alloc (.cells #[.slice none 0 0] 36)) (.cells #[.slice none 0 0] 43)
        rw [hw6]; simpa [Boxed] using this
      have hsz6 : w6.heap.size = wr.heap.size + 3 := by rw [hw6]; simp
      have htb : tb < wr.heap.size := P.out.box.lt
      have P6 := P.out.fr (Fr.of_below hb6 Nob)
      have hT6 := P6.box
      have ct6 := P6.box.cell
      rw [hw6] at ct6
      obtain ⟨ps, D, m, T, g1, g2, g3, S, g5, g6, g7⟩ := P.out
      have hTn : ∀ j, T.own j → j < wr.heap.size := fun j hj => S.rep.lt hj
      have S6 := S.new hb6
      have hall := sts_all S6 g3 (by omega) (by omega) (putsS_str rows rows.length)
      obtain ⟨res, hres⟩ : ∃ res, res = belowRes T 35184372087809 [] := ⟨_, rfl⟩
      rw [← hres] at hall
      have hok := S.rep.ok
      have hdeep := sts_deep S g3
      have hrs : Hid (res.Pairwise fun x y => lx x.1 y.1) := Lib.hid (by rw [hres]; exact bel_sorted hok [])
      have hrm : Hid (∀ q v, (q, v) ∈ res ↔ putsS rows rows.length q = some v) := Lib.hid fun q v => by rw [hres, bel_mem hok hdeep, S.hf]; simp
      have hrl : Hid (res.length = ps.length) := Lib.hid (by rw [hres, bel_len hok hdeep, S.hps])
      have hrf : Hid (belowRes T 35184372087809 l = res.filter fun x => begB l x.1) := Lib.hid (by rw [hres]; exact bel_filter hok hdeep l)
      have hdl : Hid (∀ q v, (q, v) ∈ res → q.length ≤ 35184372087808) := Lib.hid fun q v hq => by
        have h1 := (hrm.out q v).1 hq
        have := hdeep q (hok.fdom q (by rw [S.hf, h1]; rfl))
        omega
      replace hres := Lib.hid hres
      replace S6 := Lib.hid S6
      replace hall := Lib.hid hall
      replace hw6 := Lib.hid hw6
      replace g1 : ps.length ≤ rows.length := g1
      replace hTn := Lib.hid hTn
      have hs06 : w0.heap.size ≤ wr.heap.size := S.below.size
      clear S P P6 hb6 hok hdeep g5 ct
      gi_wp2_with fail
      rw [← hw6.out]
      clear ct6 hw6
      generalize wr.heap.size = nb at *
      refine callR hall.out ?_
      rintro e w7 ⟨br3, bt3, rv3, tv3, rvals3, rfl, hC, hb7⟩
      have S7 := Lib.hid (S6.out.new hb7)
      have hT7 := Lib.hid (boxed_new hT6 hb7)
      have h7all : Hid (∀ W, Fr (fun j => j = nb ∨ j = nb + 1 ∨ j = nb + 1 + 1) w7 W → Boxed W w.heap.size 36 (.slice Al l.length capl) ∧ RdI W Al l) := Lib.hid fun W hW => by
        have hS := S7.out.frT hW (fun j hj hS => by
          have h1 := hTn.out j hj
          rcases hS with rfl | rfl | rfl <;> omega) (fun j hS => by rcases hS with rfl | rfl | rfl <;> omega)
        exact ⟨(hbx.out _ hS.below).1, (hbx.out _ hS.below).2.1⟩
      replace hx1 := Lib.hid (boxed_new hx1 hb7)
      replace hx2 := Lib.hid (boxed_new hx2 hb7)
      replace hx3 := Lib.hid (boxed_new hx3 hb7)
      have hsz7 : nb + 3 ≤ w7.heap.size := by have := hb7.size; omega
      replace hC := Lib.hid hC
      clear S6 hall hb7
      gi_wp2_with fail
      generalize hq2 : nb + 1 + 1 = bb at *
      generalize hq1 : nb + 1 = lb at *
      have hord : nb < lb ∧ lb < bb ∧ bb < w7.heap.size ∧ bb < nb + 3 := by omega
      clear hq1 hq2
      obtain ⟨d, hd⟩ : ∃ d, d = w7.heap.size := ⟨_, rfl⟩
      have hI0 : Hid (I1 res l d nb lb bb w7 0 w7) := Lib.hid ⟨_, _, [], Fr.refl _ _, hx1.out, hx2.out, ⟨hx3.out, World.ownsRow_nil _ _ _ _, rfl, fun i hi => absurd hi (Nat.not_lt_zero i)⟩, fun j p v e => by omega⟩
      refine S.wp_range_rows (B := w6.heap.size) (br := br3) (bt := bt3) (rv := rv3) (tv := tv3) (rvals := rvals3) (res := res) rfl rfl (I1 res l d nb lb bb w7) (fun _ _ => False) ?hC1 (fun x hx => by have := hdl.out x.1 x.2 hx; omega) (by have := hrl.out; omega) ?hI1 ?hIx1 ?h01 ?hround1 ?hdone1 ?hstop1
      case hC1 =>
        rintro k W ⟨lv, bv, rvals, h1, -⟩
        refine hC.out.frB h1 (fun j hj => ?_) fun j hj c t f hc => ?_
        · left; rcases hj with rfl | rfl | rfl <;> omega
        · rcases hj with rfl | rfl | rfl
          · rw [hx1.out] at hc; injection hc with hc; injection hc with _ hc; rw [← hc]; decide
          · rw [hx2.out] at hc; injection hc with hc; injection hc with _ hc; rw [← hc]; decide
          · rw [hx3.out] at hc; injection hc with hc; injection hc with _ hc; rw [← hc]; decide
      case hI1 => exact fun k W W' h hf => h.two (by omega) (by omega) (by rw [hd]; exact hf)
      case hIx1 => exact fun _ _ _ h _ => h
      case h01 => exact hI0.out
      case hstop1 => exact fun _ _ h _ => h.elim
      case hround1 =>
        rintro l' k A cap p v W W2 hkv ⟨⟨W0, hJ0, hF02, hsz, hfr⟩, hrd, hn0, hcap⟩
        rw [← hd] at hF02 hsz
        obtain ⟨lv, bv, rvals, hF, hB1, hB2, hB3, hL⟩ := hJ0.two (by omega) (by omega) hF02
        have hbig : d + 2 ≤ W2.heap.size := Nat.le_trans hsz hF02.size
        have hRS : RS d nb lb bb w7 W2 (k : Int) lv bv rvals (sel res l k) W2 := ⟨fun _ _ => rfl, hF, hB1, hB2, hB3, hbig⟩
        have hkl : k < res.length := by
          rcases Nat.lt_or_ge k res.length with h1 | h1
          · exact h1
          · rw [List.getElem?_eq_none h1] at hkv; cases hkv
        have hmem : (p, v) ∈ res := List.mem_of_getElem? hkv
        have hfp := (hrm.out p v).1 hmem
        have hpl := hdl.out p v hmem
        obtain rfl := putsS_val hfp
        have hS2 : St Ls w0 t (putsS rows rows.length) ps D m T W2 := S7.out.frT hF (fun j hj hS => by
          have h1 := hTn.out j hj
          rcases hS with rfl | rfl | rfl <;> omega) (fun j hS => by rcases hS with rfl | rfl | rfl <;> omega)
        have hbt : Boxed W2 tb 51 (ptr t) := hF.heap hT7.out (fun hS => by rcases hS with rfl | rfl | rfl <;> omega)
        obtain ⟨hh1, hh2, -⟩ := hbx.out _ hS2.below
        have ct := hbt.cell
        have ch := hh1.cell
        have cn := hB1.cell
        have cl := hB2.cell
        have hcv := conv_str hrd hn0 hcap
        have hcvm := fun m => conv_str (W := W2.drewN m) (A := A) (cap := cap) (p := p) hrd hn0 hcap
        have hget := stget_s hS2 A cap p (by omega) hrd.rd (b := true) (v := .string (runesBytes p)) (by rw [hfp]; rfl) (by rw [hfp]; rfl)
        have hlx : ∀ j p' v', k = j + 1 → res[j]? = some (p', v') → lx p' p := fun j p' v' e h1 => by
          have h2 := List.pairwise_iff_getElem.1 hrs.out j k (by omega) hkl (by omega)
          rw [List.getElem?_eq_getElem (by omega)] at h1
          rw [List.getElem?_eq_getElem hkl] at hkv
          injection h1 with h1
          injection hkv with hkv'
          rw [h1, hkv'] at h2
          exact h2
        replace hget := Lib.hid hget
        replace hRS := Lib.hid hRS
        replace hlx := Lib.hid hlx
        replace hL := Lib.hid hL
        replace hrd := Lib.hid hrd
        replace hkv := Lib.hid hkv
        replace hh2 := Lib.hid hh2
        clear hF hB1 hB2 hB3 hS2 hbt hh1 hfp hmem hF02 hfr hJ0
        have hk0 : (0 : Int) ≤ (k : Int) := by omega
        generalize hrbq : runesBytes p = rb at *
        clear hrbq
        gi_wp2
        refine ⟨trivial, ?_⟩
        gi_upto_region 15 with fail
        refine callR hget.out ?_
        rintro e _ ⟨rfl, rfl⟩
        gi_upto_region 15 with fail
        gi_cut [87] from 20 (fun v wr => v = .bool false ∧ ∃ m, wr = W2.drewN m)
        case first =>
          cases k with
          | zero =>
            gi_wp2
            refine ⟨trivial, ?_⟩
            gi_wp2
            gi_meet
            case rel => exact ⟨by simp, 0, rfl⟩
          | succ j =>
            obtain ⟨⟨p', v'⟩, hj⟩ : ∃ x, res[j]? = some x := ⟨res[j], by simp⟩
            obtain ⟨A', cap', rfl, hz1, hz2, hz3, hz4⟩ := hL.out j p' v' rfl hj
            have hpl' := hdl.out p' v' (List.mem_of_getElem? hj)
            have hri := Lib.hid (rises_i W2 A' A cap' cap p' p (by omega) (by omega) hz1.rd hrd.out.rd (hlx.out j p' v' rfl hj))
            have hk1 : decide ((0 : Int) < ((j + 1 : Nat) : Int)) = true := by simp
            have hk2 : (0 : Int) < ((j + 1 : Nat) : Int) := by omega
            clear hz1 hz4 hj
            gi_wp2_with fail
            refine callR hri.out ?_
            rintro e _ ⟨rfl, m, rfl⟩
            gi_wp2
            gi_meet
            case rel => exact ⟨by simp, m, rfl⟩
        case rest =>
          clear hget hcv hcvm cl ct ch cn hL
          obtain ⟨rfl, m, rfl⟩ := hcut
          have hRS3 := Lib.hid (hRS.out.drewN m)
          have hrd3 : Hid (RdT (W2.drewN m) A p) := Lib.hid hrd.out
          have hh3 : Hid (RdI (W2.drewN m) Al l) := Lib.hid hh2.out
          clear hRS hrd hh2
          generalize W2.drewN m = W3 at *
          gi_wp2_with fail
          refine callR (copy_i W3 A cap p (by omega) hrd3.out.rd) ?_
          rintro e W4 ⟨A3, cap3, rfl, z1, z2, z3, z4, z5⟩
          have R4 := hRS3.out.new z5
          have R5 := R4.setl (by omega) (.slice A3 p.length cap3)
          have R6 := R5.setn (by omega) ((k : Int) + 1)
          have cl4 := R4.lbx.cell
          have fl4 := R4.lbx.frozen
          have cn5 := R5.nbx.cell
          have fn5 := R5.nbx.frozen
          have hF46 : Fr (fun j => j = lb ∨ j = nb) W4 ((W4.setCell ⟨lb, 0, none⟩ (.slice A3 p.length cap3)).setCell ⟨nb, 0, none⟩ (.int .i64 ((k : Int) + 1))) := ((Fr.refl (fun j => j = lb ∨ j = nb) W4).setCell (p := ⟨lb, 0, none⟩) (.inl (.inl rfl)) _).setCell (p := ⟨nb, 0, none⟩) (.inl (.inr rfl)) _
          have h21 : ∀ b c f, W4.heap[b]? = some (.cells c 21 f) → ¬ (b = lb ∨ b = nb) := fun b c f hb e => by
            rcases e with rfl | rfl
            · rw [R4.lbx] at hb; injection hb with hb; injection hb with _ hb; cases hb
            · rw [R4.nbx] at hb; injection hb with hb; injection hb with _ hb; cases hb
          have hrd6 := (hrd3.out.new z5).frame hF46 h21
          have hz6 : RdB (d + 2) ((W4.setCell ⟨lb, 0, none⟩ (.slice A3 p.length cap3)).setCell ⟨nb, 0, none⟩ (.int .i64 ((k : Int) + 1))) A3 cap3 p := ⟨z3.frame hF46 h21, z2, z1, fun ad e => by have h1 := (z4 ad e).1; have h2 := hRS3.out.big; omega⟩
          obtain ⟨hd6, hh6⟩ := h7all.out _ R6.fr
          have ch6 := hd6.cell
          have hkn : k < 5864062014805 := by have h1 := hrl.out; omega
          replace R6 := Lib.hid R6
          replace hrd6 := Lib.hid hrd6
          replace hz6 := Lib.hid hz6
          replace hh6 := Lib.hid hh6
          clear R4 R5 hF46 h21 z1 z2 z3 z4 z5 hd6 hRS3 hrd3 hh3
          gi_upto_region 19 with fail
          clear cl4 fl4 cn5 fn5
          generalize (W4.setCell ⟨lb, 0, none⟩ (.slice A3 p.length cap3)).setCell ⟨nb, 0, none⟩ (.int .i64 ((k : Int) + 1)) = W6 at *
          gi_cut [104] from 20 (fun v wr => v = .bool (begB l p) ∧ ∃ m, wr = W6.drewN m)
          case first =>
            by_cases hlp : l.length ≤ p.length
            · have hpt : (p.take l.length).length = l.length := by rw [List.length_take]; omega
              have hsame : Hid (∀ x, Calls Try.prog 17 #[.slice A l.length cap, .slice Al l.length capl] (W6.drewN x) fun e w' => e = .returned (.bool (decide (p.take l.length = l))) ∧ ∃ m, w' = (W6.drewN x).drewN m) := Lib.hid fun x => by
                have := same_runes (W6.drewN x) A Al cap capl (p.take l.length) l (by omega) (rdI_take (hrd6.out.rd : RdI (W6.drewN x) A p) l.length) hh6.out
                rw [hpt] at this
                exact this
              have hbg : begB l p = decide (p.take l.length = l) := by unfold begB; simp [hlp]
              have hd1 : decide ((l.length : Int) ≤ (p.length : Int)) = true := by simp; omega
              have hd2 : (l.length : Int) ≤ (p.length : Int) := by omega
              have hd3 : (l.length : Int) ≤ (cap : Int) := by omega
              have hd4 : l.length ≤ cap := by omega
              obtain ⟨bb2, hbb2⟩ : ∃ b, b = decide (p.take l.length = l) := ⟨_, rfl⟩
              rw [← hbb2] at hbg
              simp only [← hbb2] at hsame
              replace hbg := Lib.hid hbg
              clear hbb2
              gi_wp2
              refine wpIn_region_quiet_round (F := Fence.wide) rfl (by kernel_rfl) (by kernel_rfl) (by kernel_rfl) ?_
              repeat (refine wpQuietIn_step (fun _ _ _ _ => trivial) (fun K hK => ?_); go_simp; first | (refine hK _ ?_; clear hK K) | (apply Exists.intro; refine ⟨fun _ => ?_, hK _ ?_⟩; exact ⟨(by intro h; cases h), CallsIn.quiet_of (callsIn_wide.2 (hsame.out _))⟩; clear hK K))
              refine wpQuietIn_nil ?_
              intro _ hw'
              obtain ⟨nq, rfl⟩ := hw'
              gi_wp2
              gi_meet
              case rel => exact ⟨by rw [hbg.out], _, rfl⟩
            · have hbg : begB l p = false := by unfold begB; simp [hlp]
              have hd1 : decide ((l.length : Int) ≤ (p.length : Int)) = false := by simp; omega
              have hd2 : ¬ (l.length : Int) ≤ (p.length : Int) := by omega
              replace hbg := Lib.hid hbg
              gi_wp2
              refine wpIn_region_quiet_round (F := Fence.wide) rfl (by kernel_rfl) (by kernel_rfl) (by kernel_rfl) ?_
              repeat (refine wpQuietIn_step (fun _ _ _ _ => trivial) (fun K hK => ?_); go_simp; first | (refine hK _ ?_; clear hK K) | (apply Exists.intro; refine ⟨fun _ => ?_, hK _ ?_⟩; (fail); clear hK K))
              refine wpQuietIn_nil ?_
              intro _ hw'
              obtain ⟨nq, rfl⟩ := hw'
              gi_wp2
              gi_meet
              case rel => exact ⟨by rw [hbg.out], _, rfl⟩
          case rest =>
            obtain ⟨rfl, m6, rfl⟩ := hcut
            have R7 := R6.out.drewN m6
            have hz7 : RdB (d + 2) (W6.drewN m6) A3 cap3 p := hz6.out
            have hsl := sel_le_k res l k
            clear ch6 R6 hz6 hrd6 hh6
            generalize W6.drewN m6 = W7 at *
            have hlast : ∀ W, RdB (d + 2) W A3 cap3 p → LastIs (d + 2) res (k + 1) W (.slice A3 p.length cap3) := fun W hW j p' v' e h1 => by
              have e1 : j = k := by omega
              subst e1
              rw [hkv.out] at h1
              injection h1 with h1
              injection h1 with h1 _
              subst h1
              exact ⟨A3, cap3, rfl, hW⟩
            have hk1 : ((k + 1 : Nat) : Int) = (k : Int) + 1 := by omega
            cases hbg : begB l p with
            | false =>
              have hfin : Hid (rowPost w7.heap.size (I1 res l d nb lb bb w7 (k + 1)) (fun _ _ => False) W2 .normal { tmps := #[], defers := [] } W7) := by
                refine Lib.hid ⟨fun j hj => R7.two j (by rw [hd]; exact hj), .slice A3 p.length cap3, bv, rvals, R7.fr, ?_, R7.lbx, ?_, hlast _ hz7⟩
                · rw [hk1]; exact R7.nbx
                · rw [sel_next hkv.out, if_neg (by simp [hbg])]; exact R7.bel
              clear R7 hz7 hlast hbg
              gi_wp2
              exact hfin.out
            | true =>
              obtain ⟨i0, hi0, hi1, hi2, hi3⟩ := info_parts info36
              have cb := R7.bel.1.cell
              have cl7 := R7.lbx.cell
              obtain ⟨v', W8, hrun, hown, hgrow, _⟩ := run_append_own (P := Try.prog) (W7.alloc (.cells #[.slice A3 p.length cap3] 36)) (d + 2) 43 43 36 i0 (.slice none 0 0) 1 24 Try.underlying43 hi0 hi1 hi2 hi3 rfl (by decide) _ _ _ (R7.bel.2.1.alloc _) ⟨W7.heap.size, 0, none⟩ 1 1 [.slice A3 p.length cap3]
                rfl (World.news_of_block (cs := #[.slice A3 p.length cap3]) (heap_alloc_eq W7 _)) (by simp [Value.oneCell']) (by unfold maxLen; omega) (by omega) (by have := R7.big; simp; omega)
              have RA := R7.new ((Below.refl _ W7).alloc (Nat.le_refl _) (.cells #[.slice A3 p.length cap3] 36))
              have hzA : RdB (d + 2) (W7.alloc (.cells #[.slice A3 p.length cap3] 36)) A3 cap3 p := hz7.frame ((Fr.refl Nob W7).alloc _) fun _ h => h.elim
              have R8 := RA.app (by omega) (by omega) hzA hown hgrow
              have hz8 : RdB (d + 2) (W8.setCell ⟨bb, 0, none⟩ v') A3 cap3 p := by
                have hg2 : ∀ k, bv.ownBlock = some k → ∃ c f, (W7.alloc (.cells #[.slice A3 p.length cap3] 36)).heap[k]? = some (.cells c 36 f) := fun k e => (own_lt RA.bel.2.1 e).2.2
                have hF1 : Fr (fun j => ∃ c t f, (W7.alloc (.cells #[.slice A3 p.length cap3] 36)).heap[j]? = some (.cells c t f) ∧ t ≠ 21) _ W8 := Fr.grown (Fr.refl _ _) hgrow fun k e => by
                  obtain ⟨c, f, h2⟩ := hg2 k e
                  exact .inl ⟨c, 36, f, h2, by decide⟩
                exact (hzA.frame hF1 fun j e => .inr e).frame ((Fr.refl (fun j => j = bb) W8).setCell (p := ⟨bb, 0, none⟩) (.inl rfl) _) fun j e => by subst e; left; omega
              have hbb8 : Boxed W8 bb 43 bv := RA.bel.1.kept hgrow (RA.bel.1.not_row (by decide) RA.bel.2.1)
              have cb8 := hbb8.cell
              have fb8 := hbb8.frozen
              have hfin : Hid (rowPost w7.heap.size (I1 res l d nb lb bb w7 (k + 1)) (fun _ _ => False) W2 .normal { tmps := #[], defers := [] } (W8.setCell ⟨bb, 0, none⟩ v')) := by
                refine Lib.hid ⟨fun j hj => R8.two j (by rw [hd]; exact hj), .slice A3 p.length cap3, v', rvals ++ [.slice A3 p.length cap3], R8.fr, ?_, R8.lbx, ?_, hlast _ hz8⟩
                · rw [hk1]; exact R8.nbx
                · rw [sel_next hkv.out, if_pos hbg]; exact R8.bel
              replace hrun := Lib.hid hrun
              obtain ⟨g8, cap8, rfl⟩ := ownsRow_succ hown
              clear R7 hz7 hlast hbg RA hzA R8 hz8 hbb8 hown hgrow hi0 hi1 hi2 hi3
              gi_wp2_with (gi_at_builtin; refine wpListIn_append_run rfl (.tmp 105) (.tmp 107) 43 rfl rfl rfl hrun.out ?_)
              have hf3 := hfin.out
              obtain ⟨hf1, hf2⟩ := hf3
              exact ⟨hf1, hf2⟩
      case hdone1 =>
        rintro W ⟨lv, bv, rvals, hF, hB1, hB2, hB3, hL⟩ hD
        have hSW : St Ls w0 t (putsS rows rows.length) ps D m T W := S7.out.frT hF (fun j hj hS => by
          have h1 := hTn.out j hj
          rcases hS with rfl | rfl | rfl <;> omega) (fun j hS => by rcases hS with rfl | rfl | rfl <;> omega)
        have hbt : Boxed W tb 51 (ptr t) := hF.heap hT7.out (fun hS => by rcases hS with rfl | rfl | rfl <;> omega)
        obtain ⟨hh1, hh2, hh3⟩ := hbx.out _ hSW.below
        have hrb : Boxed W (w.heap.size + 1) 4 (.bool false) := (hSW.below.block _ (by omega)).trans hbox2.out
        rw [← hd] at hD
        gi_step
        gi_step
        rw [← hd]
        exact rises_tail n w w0 W Av Al cap capl tb nb lb bb d t rows l ps D m T res bv rvals hsz0 hb0.out hSW g1 g2 g3 hn hrl.out hrf.out (fun q v h => (hrm.out q v).1 h) hdl.out hh1 hh2 Hln.out hll hh3 hrb hbt hB1 hB3 hD ⟨g7, htb, by omega⟩ ⟨g6, fun h => by have := hTn.out _ h; omega, fun j h => by have := hTn.out j h; omega⟩
          _ _ _ _ _ _ _ _ _ _ _ _ _ _ _ _ _ _ _ _ _ _ _ _ _ _ _ _ _ _ _ _ _ _ _ _ _ _ _ _ _ _ _ _ _ _ _ _ _ _ _ _ _ _ _ _ _ _ _ _ _ _ _ _ _ _ _ _ _ _ _ _ _ _ _ _ _ _ _ _ _ _ _ _ _ _ _ _ _ _ _ _ _ _ _ _ _ _ _ _ _ _ _ _ _ _ _ _ _ _ _ _ _ _ _ _ _ _ _ _ _ _ _ _ _ _ _ _ _ _ _ _ _ _ _ _ _ _ _ _ _ _ _ _ _ _ _ _ _ _ _ _ _ _ _ _
end Go.Proofs.Ytioflglfnalcaaa

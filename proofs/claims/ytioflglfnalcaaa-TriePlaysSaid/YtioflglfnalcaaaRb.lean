/- TrieRises: the plain facts: what lies in the trie, what is gathered on the way. -/
import Derived.Laws.Cover4
import Derived.Test.YtioflglfnalcaaaRa
import Derived.Test.YtioflglfnalcaaaKd
import Derived.Test.YtioflglfnalcaaaWk
namespace Go.Proofs.Ytioflglfnalcaaa
open Go.RowKit

/-- What lies where after the first n rows were put, each with its text. -/
def putsS (rows : List (List Int)) : Nat → List Int → Option Value
  | 0 => fun _ => none
  | n + 1 => fun q => if q = rows.getD n [] then some (.string (runesBytes (rows.getD n []))) else putsS rows n q

theorem putsS_val {rows : List (List Int)} {q : List Int} {v : Value} : ∀ {n : Nat}, putsS rows n q = some v → v = .string (runesBytes q)
  | 0, h => by cases h
  | n + 1, h => by
    simp only [putsS] at h
    split at h
    · rename_i e
      injection h with h
      rw [← h, e]
    · exact putsS_val h
theorem putsS_has {rows : List (List Int)} : ∀ {n i : Nat}, i < n → (putsS rows n (rows.getD i [])).isSome = true
  | 0, _, h => by omega
  | n + 1, i, h => by
    simp only [putsS]
    split
    · rfl
    · rename_i hne
      have : i ≠ n := fun e => hne (by rw [e])
      exact putsS_has (by omega)
theorem putsS_next (rows : List (List Int)) (n : Nat) : putsS rows (n + 1) = fun q => if q = rows.getD n [] then some (.string (runesBytes (rows.getD n []))) else putsS rows n q := rfl

theorem bel_sorted {T : AT} {t D : Nat} (ok : T.Ok t) (zs : List Int) : (belowRes T D zs).Pairwise fun x y => lx x.1 y.1 := by
  unfold belowRes
  split
  · simp
  · exact dfs_sorted ok.nodup _ _
theorem bel_mem {T : AT} {t D : Nat} (ok : T.Ok t) (hd : ∀ q, (T.N q).isSome → q.length < D) (zs : List Int) (q : List Int) (v : Value) : (q, v) ∈ belowRes T D zs ↔ T.f q = some v ∧ ∃ y, q = zs ++ y := by
  unfold belowRes
  cases hz : T.N zs with
  | none =>
    simp only [List.not_mem_nil, false_iff, not_and, not_exists]
    rintro h1 y rfl
    have h2 := ok.take_none (zs := zs ++ y) (k := zs.length) (by rw [List.take_left']; exact hz; rfl)
    have h3 := ok.fdom (zs ++ y) (by rw [h1]; rfl)
    rw [h2] at h3; cases h3
  | some b =>
    have hzl := hd zs (by rw [hz]; rfl)
    exact dfs_mem ok _ _ (fun q hq => by have := hd q hq; omega) (by rw [hz]; rfl) q v

theorem bel_len {T : AT} {t D : Nat} (ok : T.Ok t) (hd : ∀ q, (T.N q).isSome → q.length < D) : (belowRes T D []).length = T.ps.length := by
  have h1 : ((belowRes T D []).map (·.1)).Nodup := by
    rw [List.Nodup, List.pairwise_map]
    refine (bel_sorted ok []).imp ?_
    intro x y h e
    rw [e] at h
    exact lx_irrefl _ h
  have h2 := nodup_le (l' := T.ps) h1 fun q hq => by
    obtain ⟨⟨q', v⟩, hx, rfl⟩ := List.mem_map.1 hq
    exact (ok.psm q').2 (by rw [((bel_mem ok hd [] q' v).1 hx).1]; rfl)
  have h3 := nodup_le (l' := (belowRes T D []).map (·.1)) ok.psn fun q hq => by
    obtain ⟨v, hv⟩ := Option.isSome_iff_exists.1 ((ok.psm q).1 hq)
    exact List.mem_map.2 ⟨(q, v), (bel_mem ok hd [] q v).2 ⟨hv, q, rfl⟩, rfl⟩
  simp only [List.length_map] at h2 h3
  omega

/-- Does a row begin so? -/
def begB (head p : List Int) : Bool := decide (head.length ≤ p.length) && decide (p.take head.length = head)
theorem begB_iff (head p : List Int) : begB head p = true ↔ ∃ y, p = head ++ y := by
  unfold begB
  simp only [Bool.and_eq_true, decide_eq_true_eq]
  constructor
  · rintro ⟨_, h⟩
    exact ⟨p.drop head.length, by conv => lhs; rw [← List.take_append_drop head.length p, h]⟩
  · rintro ⟨y, rfl⟩
    simp

theorem bel_filter {T : AT} {t D : Nat} (ok : T.Ok t) (hd : ∀ q, (T.N q).isSome → q.length < D) (head : List Int) : belowRes T D head = (belowRes T D []).filter fun x => begB head x.1 :=
  below_eq ok hd head _ ((bel_sorted ok []).filter _) fun q v => by
    rw [List.mem_filter, bel_mem ok hd, begB_iff]
    simp

/-- The rows that were gathered: those of the first k that begin so. -/
def sel (res : List (List Int × Value)) (head : List Int) (k : Nat) : List (List Int) := ((res.take k).map (·.1)).filter (begB head)
theorem sel_next {res : List (List Int × Value)} {head : List Int} {k : Nat} {p : List Int} {v : Value} (h : res[k]? = some (p, v)) : sel res head (k + 1) = if begB head p = true then sel res head k ++ [p] else sel res head k := by
  have e : res.take (k + 1) = res.take k ++ [(p, v)] := by
    rw [List.take_add_one, h]; rfl
  unfold sel
  rw [e, List.map_append, List.filter_append]
  cases hb : begB head p <;> simp [hb]
theorem sel_all (res : List (List Int × Value)) (head : List Int) : sel res head res.length = (res.filter fun x => begB head x.1).map (·.1) := by
  unfold sel
  rw [List.take_length, List.filter_map]
  rfl
theorem sel_le (res : List (List Int × Value)) (head : List Int) (k : Nat) : (sel res head k).length ≤ res.length := by
  unfold sel
  refine Nat.le_trans (List.length_filter_le _ _) ?_
  simp only [List.length_map, List.length_take]
  omega

/-- A list, in memory from B on. -/
def RdB (B : Nat) (w : World) (A : Option Addr) (cap : Nat) (p : List Int) : Prop := RdT w A p ∧ (A = none → cap = 0) ∧ p.length ≤ cap ∧ ∀ ad, A = some ad → B ≤ ad.block
/-- Slices that read as rows, in memory from B on. -/
def RowsB (B : Nat) (w : World) (rvals : List Value) (rows : List (List Int)) : Prop :=
  rvals.length = rows.length ∧ ∀ i, i < rows.length → ∃ A cap, rvals[i]? = some (.slice A (rows.getD i []).length cap) ∧ RdB B w A cap (rows.getD i [])

theorem RdB.frame {B : Nat} {w w' : World} {A : Option Addr} {cap : Nat} {p : List Int} {S : Nat → Prop} (h : RdB B w A cap p) (hf : Fr S w w') (hs : ∀ j, S j → j < B ∨ ∃ c t f, w.heap[j]? = some (.cells c t f) ∧ t ≠ 21) : RdB B w' A cap p := by
  refine ⟨fun k hk => ?_, h.2⟩
  obtain ⟨b, off, c, f, e, hb, hc⟩ := h.1 k hk
  refine ⟨b, off, c, f, e, hf.heap hb (fun hS => ?_), hc⟩
  have := h.2.2.2 _ e
  rcases hs b hS with h1 | ⟨c', t, f', h1, h2⟩
  · simp only at this; omega
  · rw [hb] at h1; injection h1 with h1; injection h1 with _ h1; exact h2 h1.symm
theorem RowsB.frame {B : Nat} {w w' : World} {rvals : List Value} {rows : List (List Int)} {S : Nat → Prop} (h : RowsB B w rvals rows) (hf : Fr S w w') (hs : ∀ j, S j → j < B ∨ ∃ c t f, w.heap[j]? = some (.cells c t f) ∧ t ≠ 21) : RowsB B w' rvals rows :=
  ⟨h.1, fun i hi => by
    obtain ⟨A, cap, h1, h2⟩ := h.2 i hi
    exact ⟨A, cap, h1, h2.frame hf hs⟩⟩
theorem RowsB.snoc {B : Nat} {w : World} {rvals : List Value} {rows : List (List Int)} {p : List Int} {A : Option Addr} {cap : Nat} (h : RowsB B w rvals rows) (hz : RdB B w A cap p) : RowsB B w (rvals ++ [.slice A p.length cap]) (rows ++ [p]) := by
  refine ⟨by simp [h.1], fun i hi => ?_⟩
  rcases Nat.lt_or_ge i rows.length with hlt | hge
  · obtain ⟨A', cap', h1, h2⟩ := h.2 i hlt
    have e : (rows ++ [p]).getD i [] = rows.getD i [] := by simp [List.getD, List.getElem?_append_left hlt]
    rw [e]
    exact ⟨A', cap', by rw [List.getElem?_append_left (by rw [h.1]; exact hlt)]; exact h1, h2⟩
  · have hi' : i = rows.length := by simp at hi; omega
    subst hi'
    have e : (rows ++ [p]).getD rows.length [] = p := by simp [List.getD]
    rw [e]
    exact ⟨A, cap, by rw [← h.1]; simp, hz⟩

/-- What has been gathered below: a box that holds a row of rows. -/
def BelIs (B : Nat) (w : World) (bb : Nat) (v : Value) (rvals : List Value) (rows : List (List Int)) : Prop := Boxed w bb 43 v ∧ w.ownsRow B 36 1 v rows.length rvals ∧ RowsB B w rvals rows

/-- The state of a round of the first loop: its own two blocks lie at d, d + 1; the boxes nb, lb, bb ahead of d. -/
structure RS (d nb lb bb : Nat) (w4 W2 : World) (nn : Int) (lv bv : Value) (rvals : List Value) (rows : List (List Int)) (w : World) : Prop where
  two : ∀ j, Two d j → w.heap[j]? = W2.heap[j]?
  fr : Fr (fun j => j = nb ∨ j = lb ∨ j = bb) w4 w
  nbx : Boxed w nb 3 (.int .i64 nn)
  lbx : Boxed w lb 36 lv
  bel : BelIs (d + 2) w bb bv rvals rows
  big : d + 2 ≤ w.heap.size

section
variable {d nb lb bb : Nat} {w4 W2 : World} {nn : Int} {lv bv : Value} {rvals : List Value} {rows : List (List Int)} {w w' : World}
theorem BelIs.new {B : Nat} (h : BelIs B w bb bv rvals rows) (k : Below w.heap.size w w') : BelIs B w' bb bv rvals rows :=
  ⟨boxed_new h.1 k, ownsRow_new h.2.1 k, h.2.2.frame (Fr.of_below k Nob) fun _ h => h.elim⟩
theorem RS.new (h : RS d nb lb bb w4 W2 nn lv bv rvals rows w) (k : Below w.heap.size w w') : RS d nb lb bb w4 W2 nn lv bv rvals rows w' where
  two := fun j hj => (k.block j (by have := h.big; rcases hj with rfl | rfl <;> omega)).trans (h.two j hj)
  fr := h.fr.trans (Fr.of_below k Nob) fun _ _ h => h.elim
  nbx := boxed_new h.nbx k
  lbx := boxed_new h.lbx k
  bel := h.bel.new k
  big := Nat.le_trans h.big k.size
theorem RS.drewN (h : RS d nb lb bb w4 W2 nn lv bv rvals rows w) (n : Nat) : RS d nb lb bb w4 W2 nn lv bv rvals rows (w.drewN n) :=
  ⟨h.two, h.fr.drewN n, h.nbx, h.lbx, h.bel, h.big⟩
theorem RS.setn (h : RS d nb lb bb w4 W2 nn lv bv rvals rows w) (hb : nb < d ∧ nb ≠ lb ∧ nb ≠ bb) (n' : Int) : RS d nb lb bb w4 W2 n' lv bv rvals rows (w.setCell ⟨nb, 0, none⟩ (.int .i64 n')) := by
  have hF : Fr (fun j => j = nb) w (w.setCell ⟨nb, 0, none⟩ (.int .i64 n')) := (Fr.refl (fun j => j = nb) w).setCell (p := ⟨nb, 0, none⟩) (.inl rfl) _
  refine ⟨fun j hj => (heap_set_ne _ (by rcases hj with rfl | rfl <;> (simp only; omega))).trans (h.two j hj), h.fr.trans hF fun j _ e => .inl e, h.nbx.set _, hF.heap h.lbx (fun e => hb.2.1 e.symm), ⟨hF.heap h.bel.1 (fun e => hb.2.2 e.symm), ?_, ?_⟩, ?_⟩
  · exact ownsRow_frB h.bel.2.1 hF fun k e => by subst e; left; omega
  · exact h.bel.2.2.frame hF fun k e => by subst e; left; omega
  · exact Nat.le_trans h.big hF.size
theorem RS.setl (h : RS d nb lb bb w4 W2 nn lv bv rvals rows w) (hb : lb < d ∧ nb ≠ lb ∧ lb ≠ bb) (v' : Value) : RS d nb lb bb w4 W2 nn v' bv rvals rows (w.setCell ⟨lb, 0, none⟩ v') := by
  have hF : Fr (fun j => j = lb) w (w.setCell ⟨lb, 0, none⟩ v') := (Fr.refl (fun j => j = lb) w).setCell (p := ⟨lb, 0, none⟩) (.inl rfl) _
  refine ⟨fun j hj => (heap_set_ne _ (by rcases hj with rfl | rfl <;> (simp only; omega))).trans (h.two j hj), h.fr.trans hF fun j _ e => .inr (.inl e), hF.heap h.nbx (fun e => hb.2.1 e), h.lbx.set _, ⟨hF.heap h.bel.1 (fun e => hb.2.2 e.symm), ?_, ?_⟩, ?_⟩
  · exact ownsRow_frB h.bel.2.1 hF fun k e => by subst e; left; omega
  · exact h.bel.2.2.frame hF fun k e => by subst e; left; omega
  · exact Nat.le_trans h.big hF.size
/-- One row more is appended: in the world that the append left. -/
theorem RS.app (h : RS d nb lb bb w4 W2 nn lv bv rvals rows w) (hb : nb < d ∧ lb < d ∧ bb < d ∧ nb ≠ bb ∧ lb ≠ bb) (h4 : w4.heap.size ≤ d) {A : Option Addr} {cap : Nat} {p : List Int} (hz : RdB (d + 2) w A cap p) {v' : Value}
    (ho : w'.ownsRow (d + 2) 36 1 v' (rows.length + 1) (rvals ++ [.slice A p.length cap])) (hg : w.grownBy w' bv.ownBlock) :
    RS d nb lb bb w4 W2 nn lv v' (rvals ++ [.slice A p.length cap]) (rows ++ [p]) (w'.setCell ⟨bb, 0, none⟩ v') := by
  have hg2 : ∀ k, bv.ownBlock = some k → d + 2 ≤ k ∧ ∃ c f, w.heap[k]? = some (.cells c 36 f) := fun k e => (own_lt h.bel.2.1 e).2
  have hF1 : Fr (fun j => d + 2 ≤ j ∧ ∃ c t f, w.heap[j]? = some (.cells c t f) ∧ t ≠ 21) w w' := Fr.grown (Fr.refl _ _) hg fun k e => by
    obtain ⟨h1, c, f, h2⟩ := hg2 k e
    exact .inl ⟨h1, c, 36, f, h2, by decide⟩
  have hF2 : Fr (fun j => j = bb) w' (w'.setCell ⟨bb, 0, none⟩ v') := (Fr.refl (fun j => j = bb) w').setCell (p := ⟨bb, 0, none⟩) (.inl rfl) _
  have hbb : Boxed w' bb 43 bv := hF1.heap h.bel.1 fun e => by have := e.1; omega
  have hr1 : RowsB (d + 2) w' rvals rows := h.bel.2.2.frame hF1 fun j e => .inr e.2
  have hz1 : RdB (d + 2) w' A cap p := hz.frame hF1 fun j e => .inr e.2
  refine ⟨fun j hj => ?_, ?_, ?_, ?_, ⟨hbb.set _, ?_, ?_⟩, ?_⟩
  · rw [heap_set_ne _ (by rcases hj with rfl | rfl <;> (simp only; omega)), ← h.two j hj]
    exact hF1.block j (by have := h.big; rcases hj with rfl | rfl <;> omega) (fun e => by have := e.1; rcases hj with rfl | rfl <;> omega)
  · refine (h.fr.trans hF1 fun j hj e => ?_).trans hF2 fun j _ e => .inr (.inr e)
    have := e.1; omega
  · exact hF2.heap (hF1.heap h.nbx fun e => by have := e.1; omega) fun e => by omega
  · exact hF2.heap (hF1.heap h.lbx fun e => by have := e.1; omega) fun e => by omega
  · rw [List.length_append]
    exact ownsRow_frB ho hF2 fun k e => by subst e; left; omega
  · exact (hr1.snoc hz1).frame hF2 fun k e => by subst e; left; omega
  · exact Nat.le_trans h.big (Nat.le_trans hF1.size hF2.size)
end

/-- The last row that came. -/
def LastIs (B : Nat) (res : List (List Int × Value)) (k : Nat) (w : World) (lv : Value) : Prop := ∀ j p v, k = j + 1 → res[j]? = some (p, v) → ∃ A cap, lv = .slice A p.length cap ∧ RdB B w A cap p
theorem LastIs.frame {B : Nat} {res : List (List Int × Value)} {k : Nat} {w w' : World} {lv : Value} {S : Nat → Prop} (h : LastIs B res k w lv) (hf : Fr S w w') (hs : ∀ j, S j → j < B ∨ ∃ c t f, w.heap[j]? = some (.cells c t f) ∧ t ≠ 21) : LastIs B res k w' lv := fun j p v e h1 => by
  obtain ⟨A, cap, h2, h3⟩ := h j p v e h1
  exact ⟨A, cap, h2, h3.frame hf hs⟩

/-- The first loop, k rounds being over. -/
def I1 (res : List (List Int × Value)) (head : List Int) (d nb lb bb : Nat) (w4 : World) (k : Nat) (w : World) : Prop :=
  ∃ lv bv rvals, Fr (fun j => j = nb ∨ j = lb ∨ j = bb) w4 w ∧ Boxed w nb 3 (.int .i64 (k : Int)) ∧ Boxed w lb 36 lv ∧ BelIs (d + 2) w bb bv rvals (sel res head k) ∧ LastIs (d + 2) res k w lv

theorem I1.two {res : List (List Int × Value)} {head : List Int} {d nb lb bb : Nat} {w4 : World} {k : Nat} {w w' : World} (h : I1 res head d nb lb bb w4 k w) (hb : nb < d ∧ lb < d ∧ bb < d) (h4 : w4.heap.size ≤ d) (hf : Fr (Two d) w w') : I1 res head d nb lb bb w4 k w' := by
  obtain ⟨lv, bv, rvals, h1, h2, h3, h5, h6⟩ := h
  have hS : ∀ j, Two d j → j < d + 2 ∨ ∃ c t f, w.heap[j]? = some (.cells c t f) ∧ t ≠ 21 := fun j hj => by rcases hj with rfl | rfl <;> (left; omega)
  refine ⟨lv, bv, rvals, h1.trans hf fun j hj e => (by rcases e with rfl | rfl <;> omega), hf.heap h2 (fun e => by rcases e with rfl | rfl <;> omega), hf.heap h3 (fun e => by rcases e with rfl | rfl <;> omega), ⟨hf.heap h5.1 (fun e => by rcases e with rfl | rfl <;> omega), ?_, h5.2.2.frame hf hS⟩, h6.frame hf hS⟩
  exact ownsRow_frB h5.2.1 hf fun j hj => by rcases hj with rfl | rfl <;> (left; omega)

section
variable {w0 w : World} {t : Nat} {f : List Int → Option Value} {ps : List (List Int)} {D m : Nat} {T : AT}
theorem sts_deep (Z : St Ls w0 t f ps D m T w) (hD : D ≤ 35184372087808) : ∀ q, (T.N q).isSome → q.length < 35184372087809 := fun q hq => by have := Z.small.1 q hq; omega
theorem sts_below (Z : St Ls w0 t f ps D m T w) (hD : D ≤ 35184372087808) (hm : m ≤ 35184372088832) (hps : ps.length ≤ 5864062014805) (hint : ∀ p v, f p = some v → ∃ x, v = .string x)
    (A : Option Addr) (cap : Nat) (zs : List Int) (hr : RdI w A zs) (hn : A = none → cap = 0) (hlen : zs.length ≤ 35184372087808) :
    Calls Try.prog 20 #[ptr t, .slice A zs.length cap] w (BelowPost 43 73 9 52 w (belowRes T 35184372087809 zs)) :=
  S.below_i (N := 35184372088832) (D := 35184372087809) sort_all (Nat.le_refl _) (by omega) w t T A cap zs Z.rep hr hn (by omega) ⟨fun q hq => by have := Z.small.1 q hq; omega, fun q => Nat.le_trans (Z.small.2 q) hm⟩ (by rw [Z.hf]; exact hint) (sts_deep Z hD)
    (Nat.le_trans (below_le_ps Z.rep.ok (sts_deep Z hD) zs) (by rw [Z.hps]; exact hps))
theorem sts_all (Z : St Ls w0 t f ps D m T w) (hD : D ≤ 35184372087808) (hm : m ≤ 35184372088832) (hps : ps.length ≤ 5864062014805) (hint : ∀ p v, f p = some v → ∃ x, v = .string x) :
    Calls Try.prog 19 #[ptr t] w (BelowPost 43 73 9 52 w (belowRes T 35184372087809 [])) :=
  S.all_i (N := 35184372088832) (D := 35184372087809) sort_all (Nat.le_refl _) (by omega) w t T Z.rep ⟨fun q hq => by have := Z.small.1 q hq; omega, fun q => Nat.le_trans (Z.small.2 q) hm⟩ (by rw [Z.hf]; exact hint) (sts_deep Z hD)
    (Nat.le_trans (below_le_ps Z.rep.ok (sts_deep Z hD) []) (by rw [Z.hps]; exact hps))

def PutFs (w0 : World) (t : Nat) (b : Bool) (f : List Int → Option Value) (ps : List (List Int)) (D m : Nat) (T : AT) (w : World) (e : Ending) (w' : World) : Prop :=
  e = .returned (.bool b) ∧ ∃ T', St Ls w0 t f ps D m T' w' ∧ Fr T.own w w' ∧ ∀ j, T'.own j → T.own j ∨ w.heap.size ≤ j
theorem stf_put_s (S : St Ls w0 t f ps D m T w) (A : Option Addr) (cap : Nat) (zs : List Int) (vs : ByteArray) (hlen : zs.length ≤ 140737488351232) (hr : RdI w A zs) (ha : ∀ ad, A = some ad → zs ≠ [] → ¬ T.own ad.block) (hps : ps.length ≤ 140737488351232)
    {b : Bool} (hb : (f zs).isSome = b) {ps' : List (List Int)} (hp : (if b = true then ps else zs :: ps) = ps') {D' : Nat} (hD : D ≤ D') (hz : zs.length ≤ D') :
    Calls Try.prog 21 #[ptr t, .slice A zs.length cap, .string vs] w (PutFs w0 t b (fun q => if q = zs then some (.string vs) else f q) ps' D' (m + 1) T w) := by
  refine (put_s w t T A cap zs vs S.rep hlen hr ha (by rw [S.hps]; exact hps)).mono ?_
  rintro e w' ⟨h1, T', h2, h3, h4, h5, h6, h7, _⟩
  rw [S.hf] at h1 h3 h4
  rw [S.hps] at h4
  rw [hb] at h1 h4
  refine ⟨h1, T', ⟨h2, h3, h4.trans hp, h7 D' m ⟨fun q hq => Nat.le_trans (S.small.1 q hq) hD, S.small.2⟩ hz, fun j hj => ?_, S.below.trans (h5.below S.below.size fun j hj => S.own j hj)⟩, h5, h6⟩
  rcases h6 j hj with h | h
  · exact S.own j h
  · have := S.below.size; omega
end
end Go.Proofs.Ytioflglfnalcaaa

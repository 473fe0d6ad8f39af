/- TrieKnown: the plain facts. -/
import Derived.Laws.Cover4
import Derived.Test.YtioflglfnalcaaaKa
import Derived.Test.YtioflglfnalcaaaRf
namespace Go.Proofs.Ytioflglfnalcaaa
open Go.RowKit

def A1 : List Int → Option Value := fun q => if q = [97, 98, 99] then some (.int .i64 3) else none
def A2 : List Int → Option Value := fun q => if q = [98] then some (.int .i64 4) else A1 q
def A3 : List Int → Option Value := fun q => if q = [97, 98] then some (.int .i64 2) else A2 q
def A4 : List Int → Option Value := fun q => if q = [97] then some (.int .i64 1) else A3 q
def A5 : List Int → Option Value := fun q => if q = [97, 98] then some (.int .i64 5) else A4 q
def A6 : List Int → Option Value := fun q => if q = [] then some (.int .i64 9) else A5 q
def A7 : List Int → Option Value := fun q => if q = [97, 98] then none else A6 q
def A8 : List Int → Option Value := fun q => if q = [97, 98] then none else A7 q
def A9 : List Int → Option Value := fun q => if q = [] then none else A8 q

def resAll : List (List Int × Value) := [([], .int .i64 9), ([97], .int .i64 1), ([97, 98], .int .i64 5), ([97, 98, 99], .int .i64 3), ([98], .int .i64 4)]
def resAb : List (List Int × Value) := [([97, 98], .int .i64 5), ([97, 98, 99], .int .i64 3)]

theorem A6_iff (q : List Int) (v : Value) : (q, v) ∈ resAll ↔ A6 q = some v := by
  simp only [resAll, A6, A5, A4, A3, A2, A1, List.mem_cons, Prod.mk.injEq, List.not_mem_nil, or_false]
  constructor
  · rintro (⟨rfl, rfl⟩ | ⟨rfl, rfl⟩ | ⟨rfl, rfl⟩ | ⟨rfl, rfl⟩ | ⟨rfl, rfl⟩) <;> simp
  · intro h
    by_cases h0 : q = []
    · subst h0; simp at h; simp [h]
    by_cases h1 : q = [97, 98]
    · subst h1; simp at h; simp [h]
    by_cases h2 : q = [97]
    · subst h2; simp at h; simp [h]
    by_cases h3 : q = [98]
    · subst h3; simp at h; simp [h]
    by_cases h4 : q = [97, 98, 99]
    · subst h4; simp at h; simp [h]
    simp [h0, h1, h2, h3, h4] at h

theorem A6_int : ∀ p v, A6 p = some v → ∃ x, v = .int .i64 x := by
  intro p v h
  have := (A6_iff p v).2 h
  simp only [resAll, List.mem_cons, Prod.mk.injEq, List.not_mem_nil, or_false] at this
  rcases this with ⟨_, rfl⟩ | ⟨_, rfl⟩ | ⟨_, rfl⟩ | ⟨_, rfl⟩ | ⟨_, rfl⟩ <;> exact ⟨_, rfl⟩

theorem resAll_sorted : resAll.Pairwise fun x y => lx x.1 y.1 := by
  simp [resAll, lx]
theorem resAb_sorted : resAb.Pairwise fun x y => lx x.1 y.1 := by
  simp [resAb, lx]

theorem all_eq {T : AT} {t D : Nat} (ok : T.Ok t) (hd : ∀ q, (T.N q).isSome → q.length < D) (hf : T.f = A6) : belowRes T D [] = resAll :=
  below_eq ok hd [] resAll resAll_sorted fun q v => by
    rw [A6_iff, hf]
    simp
theorem ab_eq {T : AT} {t D : Nat} (ok : T.Ok t) (hd : ∀ q, (T.N q).isSome → q.length < D) (hf : T.f = A6) : belowRes T D [97, 98] = resAb :=
  below_eq ok hd _ resAb resAb_sorted fun q v => by
    rw [hf, ← A6_iff]
    simp only [resAll, resAb, List.mem_cons, Prod.mk.injEq, List.not_mem_nil, or_false]
    constructor
    · rintro (⟨rfl, rfl⟩ | ⟨rfl, rfl⟩) <;> simp
    · rintro ⟨⟨rfl, rfl⟩ | ⟨rfl, rfl⟩ | ⟨rfl, rfl⟩ | ⟨rfl, rfl⟩ | ⟨rfl, rfl⟩, y, hy⟩ <;> simp at hy ⊢
theorem x_eq {T : AT} {t D : Nat} (ok : T.Ok t) (hd : ∀ q, (T.N q).isSome → q.length < D) (hf : T.f = A6) : belowRes T D [120] = [] :=
  below_eq ok hd _ [] List.Pairwise.nil fun q v => by
    rw [hf, ← A6_iff]
    simp only [resAll, List.mem_cons, Prod.mk.injEq, List.not_mem_nil, or_false, false_iff]
    rintro ⟨⟨rfl, rfl⟩ | ⟨rfl, rfl⟩ | ⟨rfl, rfl⟩ | ⟨rfl, rfl⟩ | ⟨rfl, rfl⟩, y, hy⟩ <;> simp at hy

theorem ownsRow_frT {S : Nat → Prop} {w w' : World} {B : Nat} {e : TypeId} {v : Value} {n : Nat} {xs : List Value} (h : w.ownsRow B e 1 v n xs) (hf : Fr S w w') (hs : ∀ k, S k → ∀ c t f, w.heap[k]? = some (.cells c t f) → t ≠ e) : w'.ownsRow B e 1 v n xs := by
  refine ⟨h.1, ?_⟩
  rcases h.2 with h2 | ⟨g, cap, cur, hv, hg, hh, r⟩
  · exact .inl h2
  · exact .inr ⟨g, cap, cur, hv, hg, hf.heap hh (fun hS => hs g hS _ _ _ hh rfl), r⟩
theorem Coll.frT {S : Nat → Prop} {tr ti ei : TypeId} {B : Nat} {w w' : World} {br bt : Nat} {rv tv : Value} {rvals vals : List Value} {rows : List (List Int)} (h : Coll tr ti ei B w br bt rv tv rvals vals rows) (hf : Fr S w w')
    (hs : ∀ k, S k → ∀ c t f, w.heap[k]? = some (.cells c t f) → t ∉ [tr, ti, 36, ei, 21]) : Coll tr ti ei B w' br bt rv tv rvals vals rows where
  hb := h.hb
  hb2 := h.hb2
  box := hf.heap h.box fun hS => hs _ hS _ _ _ h.box (by simp)
  own := ownsRow_frT h.own hf fun k hS c t f hc e => hs k hS c t f hc (by simp [e])
  are := ⟨h.are.1, fun i hi => by
    obtain ⟨A, cap, h1, h2, h3⟩ := h.are.2 i hi
    exact ⟨A, cap, h1, RdT.frame h2 hf (fun b c f hb hS => hs b hS c _ f hb (by simp)), h3⟩⟩
  tbox := hf.heap h.tbox fun hS => hs _ hS _ _ _ h.tbox (by simp)
  town := ownsRow_frT h.town hf fun k hS c t f hc e => hs k hS c t f hc (by simp [e])

/-- What is added up: each row's text and a semicolon. -/
def accOf (rows : List (List Int)) : ByteArray := rows.foldl (fun s p => s ++ runesBytes p ++ ⟨#[59]⟩) ⟨#[]⟩
theorem St.frT {L : Lay} {w0 w w' : World} {t : Nat} {f : List Int → Option Value} {ps : List (List Int)} {D m : Nat} {T : AT} {S : Nat → Prop} (h : St L w0 t f ps D m T w) (k : Fr S w w') (h1 : ∀ j, T.own j → ¬ S j) (h2 : ∀ j, S j → w0.heap.size ≤ j) :
    St L w0 t f ps D m T w' :=
  { h with rep := h.rep.frame k h1, below := h.below.trans (k.below h.below.size h2) }
theorem keep_new {w w' : World} {k : Nat} {o : Obj} (h : w.heap[k]? = some o) (hb : Below w.heap.size w w') : w'.heap[k]? = some o := (hb.block k (lt_of_heap h)).trans h
theorem acc_small {res : List (List Int × Value)} (hr : (List.range 6).all (fun k => decide ((accOf ((res.take k).map (·.1))).size ≤ 1000)) = true) (h6 : res.length ≤ 5) {k : Nat} {x : List Int × Value} (hk : res[k]? = some x) : (accOf ((res.take k).map (·.1))).size ≤ 1000 := by
  have hlt : k < res.length := by
    rcases Nat.lt_or_ge k res.length with h1 | h1
    · exact h1
    · rw [List.getElem?_eq_none h1] at hk; cases hk
  exact of_decide_eq_true (List.all_eq_true.1 hr k (List.mem_range.2 (by omega)))
theorem row_small {res : List (List Int × Value)} (hr : ∀ x ∈ res, x.1.length ≤ 3) {k : Nat} {p : List Int} {v : Value} (hk : res[k]? = some (p, v)) : (runesBytes p).size ≤ 12 := by
  have h1 := hr (p, v) (List.mem_of_getElem? hk)
  have h2 := runesBytes_size_le p
  simp only at h1
  omega

theorem boxed_fr {w w' : World} {b : Nat} {t : TypeId} {v : Value} (h : Boxed w b t v) (hf : Fr Nob w w') : Boxed w' b t v := hf.heap h fun h => h
theorem heap_fr {w w' : World} {b : Nat} {o : Obj} (h : w.heap[b]? = some o) (hf : Fr Nob w w') : w'.heap[b]? = some o := hf.heap h fun h => h
def TakeF (w0 : World) (t : Nat) (b : Bool) (f : List Int → Option Value) (ps : List (List Int)) (D m : Nat) (T : AT) (w : World) (e : Ending) (w' : World) : Prop :=
  e = .returned (.bool b) ∧ ∃ T', St Li w0 t f ps D m T' w' ∧ Fr T.own w w' ∧ ∀ j, T'.own j → T.own j
theorem stf_take {w0 w : World} {t : Nat} {f : List Int → Option Value} {ps : List (List Int)} {D m : Nat} {T : AT} (S : St Li w0 t f ps D m T w) (A : Option Addr) (cap : Nat) (zs : List Int) (hlen : zs.length ≤ 140737488351232) (hr : RdI w A zs) (hps : ps.length ≤ 140737488351232)
    {b : Bool} (hb : (f zs).isSome = b) {ps' : List (List Int)} (hp : ps.erase zs = ps') :
    Calls Try.prog 34 #[ptr t, .slice A zs.length cap] w (TakeF w0 t b (fun q => if q = zs then none else f q) ps' D m T w) := by
  refine (take_i w t T A cap zs S.rep hlen hr (by rw [S.hps]; exact hps)).mono ?_
  rintro e w' ⟨h1, h2, h3⟩
  rw [S.hf, hb] at h1
  exact ⟨h1, _, ⟨h2, by rw [← S.hf]; rfl, by rw [← hp, ← S.hps]; rfl, S.small, S.own, S.below.trans (h3.below S.below.size fun j hj => S.own j hj)⟩, h3, fun j hj => hj⟩

/-- The runes of a row, as a string. -/
theorem conv_str {W : World} {A : Option Addr} {cap : Nat} {p : List Int} (h : RdT W A p) (hn : A = none → cap = 0) (hc : p.length ≤ cap) : (convert 36 9 (.slice A p.length cap)).run Try.prog W = .ok (.string (runesBytes p)) W := by
  cases A with
  | none =>
    have hz : p = [] := List.length_eq_zero_iff.1 (by have := hn rfl; omega)
    subst hz
    exact run_convert_runes_nil W 36 9 21 _ _ Try.underlying36 Try.underlying21 Try.underlying9
  | some a =>
    have h2 := run_convert_runes (P := Try.prog) W 36 9 21 a p.length cap p (Nat.le_refl _) Try.underlying36 Try.underlying21 Try.underlying9 (fun j hj => by
      obtain ⟨b, off, e, hcc⟩ := h.rd j hj
      cases e
      rw [addr_add]; exact hcc)
    rwa [List.take_length] at h2

theorem accOf_next {res : List (List Int × Value)} {k : Nat} {p : List Int} {v : Value} (h : res[k]? = some (p, v)) : accOf ((res.take (k + 1)).map (·.1)) = accOf ((res.take k).map (·.1)) ++ runesBytes p ++ ⟨#[59]⟩ := by
  have hk : k < res.length := by
    rcases Nat.lt_or_ge k res.length with h1 | h1
    · exact h1
    · rw [List.getElem?_eq_none h1] at h; cases h
  have e : res.take (k + 1) = res.take k ++ [(p, v)] := by
    rw [List.take_add_one, h]; rfl
  rw [e, List.map_append, accOf, List.foldl_append]
  rfl
theorem accAll : accOf (resAll.map (·.1)) = ⟨#[59, 97, 59, 97, 98, 59, 97, 98, 99, 59, 98, 59]⟩ := by kernel_rfl
theorem accAb : accOf (resAb.map (·.1)) = ⟨#[97, 98, 59, 97, 98, 99, 59]⟩ := by kernel_rfl
end Go.Proofs.Ytioflglfnalcaaa

/- How a trie lies in memory: its nodes by their rows, its maps, its things; what a new child, a thing put or taken turns. No program in sight. -/
import Derived.Test.YtioflglfnalcaaaBase
namespace Go.Proofs.Ytioflglfnalcaaa
open Go.RowKit

@[reducible] def ptr (b : Nat) : Value := .pointer (some ⟨b, 0, none⟩)
def optPtr : Option Nat → Value
  | none => .pointer none
  | some b => ptr b

/-- A trie: its nodes' blocks, its maps' blocks, the numbers behind each row as they came, the things, the rows that have one. -/
structure AT where
  N : List Int → Option Nat
  M : List Int → Option Nat
  K : List Int → List Int
  f : List Int → Option Value
  ps : List (List Int)

/-- The types' numbers, and the zero thing. -/
structure Lay where
  tt : TypeId
  tn : TypeId
  z : Value

def nodeObj (L : Lay) (p : List Int) (mp : Option Nat) (x : Option Value) (n : Nat) : Obj :=
  if p = [] then .cells #[.map mp, x.getD L.z, .bool x.isSome, .int .i64 (n : Int)] L.tt (0, 0) else .cells #[.map mp, x.getD L.z, .bool x.isSome] L.tn (0, 0)

structure AT.Ok (T : AT) (t : Nat) : Prop where
  root : T.N [] = some t
  pre : ∀ p r, (T.N (p ++ [r])).isSome = true ↔ ((T.N p).isSome = true ∧ r ∈ T.K p)
  nodup : ∀ p, (T.K p).Nodup
  mnone : ∀ p, T.M p = none → T.K p = []
  mdom : ∀ p m, T.M p = some m → (T.N p).isSome = true
  inj : ∀ p q b, T.N p = some b → T.N q = some b → p = q
  minj : ∀ p q m, T.M p = some m → T.M q = some m → p = q
  dis : ∀ p q b, T.N p = some b → T.M q = some b → False
  fdom : ∀ p, (T.f p).isSome = true → (T.N p).isSome = true
  psn : T.ps.Nodup
  psm : ∀ p, p ∈ T.ps ↔ (T.f p).isSome = true
  dep : ∃ D, ∀ p, (T.N p).isSome = true → p.length ≤ D

def AT.kids (T : AT) (p : List Int) : List (Int × Value) := (T.K p).map fun r => (r, optPtr (T.N (p ++ [r])))

structure Rep (L : Lay) (w : World) (t : Nat) (T : AT) : Prop where
  ok : T.Ok t
  node : ∀ p b, T.N p = some b → w.heap[b]? = some (nodeObj L p (T.M p) (T.f p) T.ps.length)
  map : ∀ p m, T.M p = some m → w.heap[m]? = some (.map (ents 0 (T.kids p)).toArray (T.K p).length)

def AT.own (T : AT) (k : Nat) : Prop := (∃ p, T.N p = some k) ∨ (∃ p, T.M p = some k)

theorem Rep.lt {L : Lay} {w : World} {t : Nat} {T : AT} (R : Rep L w t T) {k : Nat} (h : T.own k) : k < w.heap.size := by
  rcases h with ⟨p, hp⟩ | ⟨p, hp⟩
  · exact lt_of_heap (R.node p k hp)
  · exact lt_of_heap (R.map p k hp)

theorem Rep.frame {L : Lay} {w w' : World} {t : Nat} {T : AT} {S : Nat → Prop} (R : Rep L w t T) (h : Fr S w w') (hs : ∀ k, T.own k → ¬ S k) : Rep L w' t T :=
  ⟨R.ok, fun p b hp => h.heap (R.node p b hp) (hs b (.inl ⟨p, hp⟩)), fun p m hp => h.heap (R.map p m hp) (hs m (.inr ⟨p, hp⟩))⟩

theorem lookup_kids_aux (g : Int → Value) (r : Int) : ∀ l : List Int, (l.map fun x => (x, g x)).lookup r = if r ∈ l then some (g r) else none
  | [] => by simp
  | x :: l => by
    by_cases h : r = x
    · subst h; simp
    · have hb : (r == x) = false := by simpa using h
      simp [List.lookup, hb, lookup_kids_aux g r l, h]

theorem AT.Ok.lookup {T : AT} {t : Nat} (h : T.Ok t) (p : List Int) (r : Int) :
    ((T.kids p).lookup r).getD (.pointer none) = optPtr (T.N (p ++ [r])) := by
  unfold AT.kids
  rw [lookup_kids_aux (fun r => optPtr (T.N (p ++ [r])))]
  by_cases hr : r ∈ T.K p
  · simp [hr]
  · have hn : T.N (p ++ [r]) = none := by
      cases hx : T.N (p ++ [r]) with
      | none => rfl
      | some b => exact absurd ((h.pre p r).1 (by simp [hx])).2 hr
    simp [hr, hn, optPtr]

theorem AT.Ok.notin {T : AT} {t : Nat} (h : T.Ok t) {p : List Int} {r : Int} (hp : (T.N p).isSome = true) (hn : T.N (p ++ [r]) = none) : r ∉ T.K p := fun hr => by
  have := (h.pre p r).2 ⟨hp, hr⟩
  rw [hn] at this; cases this

theorem AT.Ok.lookup_none {T : AT} {t : Nat} (h : T.Ok t) {p : List Int} {r : Int} (hp : (T.N p).isSome = true) (hn : T.N (p ++ [r]) = none) : (T.kids p).lookup r = none := by
  unfold AT.kids
  rw [lookup_kids_aux (fun r => optPtr (T.N (p ++ [r]))), if_neg (h.notin hp hn)]

theorem AT.Ok.up {T : AT} {t : Nat} (h : T.Ok t) : ∀ (q p : List Int), (T.N (p ++ q)).isSome = true → (T.N p).isSome = true := by
  intro q
  induction q with
  | nil => intro p hx; simpa using hx
  | cons r q ih =>
    intro p hx
    have e : p ++ r :: q = (p ++ [r]) ++ q := by simp
    rw [e] at hx
    exact ((h.pre _ _).1 (ih _ hx)).1

theorem AT.Ok.take_none {T : AT} {t : Nat} (h : T.Ok t) {zs : List Int} {k : Nat} (hn : T.N (zs.take k) = none) : T.N zs = none := by
  cases hx : T.N zs with
  | none => rfl
  | some b =>
    have := h.up (zs.drop k) (zs.take k) (by rw [List.take_append_drop, hx]; rfl)
    rw [hn] at this; cases this

/-! ### a new trie -/
def AT.empty (t : Nat) : AT := { N := fun p => if p = [] then some t else none, M := fun _ => none, K := fun _ => [], f := fun _ => none, ps := [] }

theorem AT.empty_ok (t : Nat) : (AT.empty t).Ok t where
  root := by simp [AT.empty]
  pre := fun p r => by simp [AT.empty]
  nodup := fun p => by simp [AT.empty]
  mnone := fun p _ => rfl
  mdom := fun p m h => by cases h
  inj := fun p q b hp hq => by
    simp only [AT.empty] at hp hq
    split at hp <;> split at hq <;> simp_all
  minj := fun p q m h => by cases h
  dis := fun p q b _ h => by cases h
  fdom := fun p h => by cases h
  psn := by simp [AT.empty]
  psm := fun p => by simp [AT.empty]
  dep := ⟨0, fun p h => by
    simp only [AT.empty] at h
    split at h
    · simp_all
    · cases h⟩

theorem rep_empty {L : Lay} {w : World} {t : Nat} (h : w.heap[t]? = some (.cells #[.map none, L.z, .bool false, .int .i64 0] L.tt (0, 0))) : Rep L w t (AT.empty t) where
  ok := AT.empty_ok t
  node := fun p b hp => by
    simp only [AT.empty] at hp
    split at hp
    · rename_i h0
      cases hp
      subst h0
      simpa [nodeObj, AT.empty] using h
    · cases hp
  map := fun p m h => by cases h

/-! ### a new child -/
def AT.add (T : AT) (p : List Int) (r : Int) (b m : Nat) : AT :=
  { N := fun q => if q = p ++ [r] then some b else T.N q
    M := fun q => if q = p then some m else T.M q
    K := fun q => if q = p then T.K p ++ [r] else T.K q
    f := T.f, ps := T.ps }

theorem snoc_ne (p : List Int) (r : Int) : p ≠ p ++ [r] := fun h => by
  have := congrArg List.length h
  simp at this

theorem snoc_inj {p q : List Int} {r s : Int} (h : p ++ [r] = q ++ [s]) : p = q ∧ r = s := by
  have h1 := List.append_inj' h rfl
  simpa using h1

section
variable {L : Lay} {w w' : World} {t a b m : Nat} {T : AT} {p : List Int} {r : Int}

theorem AT.Ok.child_none (h : T.Ok t) (hn : T.N p = none) (r : Int) : T.N (p ++ [r]) = none := by
  cases hx : T.N (p ++ [r]) with
  | none => rfl
  | some c =>
    have := ((h.pre p r).1 (by simp [hx])).1
    rw [hn] at this; cases this

theorem AT.add_ok (R : Rep L w t T) (hp : T.N p = some a) (hn : T.N (p ++ [r]) = none) (hb : w.heap.size ≤ b) (hm : T.M p = some m ∨ (T.M p = none ∧ w.heap.size ≤ m ∧ m ≠ b)) : (T.add p r b m).Ok t := by
  have h := R.ok
  have hlt : ∀ q c, T.N q = some c → c < w.heap.size := fun q c hq => R.lt (.inl ⟨q, hq⟩)
  have hmlt : ∀ q c, T.M q = some c → c < w.heap.size := fun q c hq => R.lt (.inr ⟨q, hq⟩)
  have hr : r ∉ T.K p := h.notin (by simp [hp]) hn
  have hpr : p ++ [r] ≠ [] := by simp
  have hm0 : ∀ q, T.M q = some m → q = p := by
    intro q hq
    rcases hm with hm | ⟨_, hm, _⟩
    · exact h.minj q p m hq hm
    · have := hmlt q m hq; omega
  have hmb : m ≠ b := by
    rcases hm with hm | ⟨_, _, hm⟩
    · have := hmlt p m hm; omega
    · exact hm
  have hmN : ∀ q, T.N q ≠ some m := by
    intro q hq
    rcases hm with hm | ⟨_, hm, _⟩
    · exact h.dis q p m hq hm
    · have := hlt q m hq; omega
  constructor
  · simp [AT.add, hpr.symm, h.root]
  · intro q s
    simp only [AT.add]
    by_cases h1 : q ++ [s] = p ++ [r]
    · obtain ⟨rfl, rfl⟩ := snoc_inj h1
      simp [hp]
    · rw [if_neg h1]
      by_cases h2 : q = p
      · subst h2
        have hs : s ≠ r := fun e => h1 (by rw [e])
        rw [if_neg (snoc_ne q r), if_pos rfl, h.pre q s]
        simp [hs]
      · rw [if_neg h2]
        by_cases h3 : q = p ++ [r]
        · subst h3
          rw [if_pos rfl]
          have e1 : T.N (p ++ [r] ++ [s]) = none := h.child_none hn s
          have e2 : T.K (p ++ [r]) = [] := by
            cases hM : T.M (p ++ [r]) with
            | none => exact h.mnone _ hM
            | some c => have := h.mdom _ _ hM; rw [hn] at this; cases this
          rw [e1, e2]; simp
        · rw [if_neg h3, h.pre q s]
  · intro q
    simp only [AT.add]
    split
    · rw [List.nodup_append]
      exact ⟨h.nodup p, by simp, by intro x hx y hy; simp at hy; subst hy; rintro rfl; exact hr hx⟩
    · exact h.nodup q
  · intro q hq
    simp only [AT.add] at hq ⊢
    split at hq
    · cases hq
    · rename_i h1; rw [if_neg h1]; exact h.mnone q hq
  · intro q c hq
    simp only [AT.add] at hq ⊢
    split
    · rfl
    · split at hq
      · rename_i h1; subst h1; simp [hp]
      · exact h.mdom q c hq
  · intro q q' c h1 h2
    simp only [AT.add] at h1 h2
    split at h1 <;> split at h2
    · simp_all
    · cases h1; have := hlt _ _ h2; omega
    · cases h2; have := hlt _ _ h1; omega
    · exact h.inj q q' c h1 h2
  · intro q q' c h1 h2
    simp only [AT.add] at h1 h2
    split at h1 <;> split at h2
    · simp_all
    · cases h1; rename_i e1 e2; rw [e1]; exact (hm0 _ h2).symm
    · cases h2; rename_i e1 e2; rw [e2]; exact hm0 _ h1
    · exact h.minj q q' c h1 h2
  · intro q q' c h1 h2
    simp only [AT.add] at h1 h2
    split at h1 <;> split at h2
    · cases h1; cases h2; exact hmb rfl
    · cases h1; have := hmlt _ _ h2; omega
    · cases h2; exact hmN _ h1
    · exact h.dis q q' c h1 h2
  · intro q hq
    simp only [AT.add] at hq ⊢
    split
    · rfl
    · exact h.fdom q hq
  · exact h.psn
  · exact h.psm
  · obtain ⟨D, hD⟩ := h.dep
    refine ⟨max D (p.length + 1), fun q hq => ?_⟩
    simp only [AT.add] at hq
    split at hq
    · rename_i e; rw [e]; simp; omega
    · have := hD q hq; omega

theorem rep_add (R : Rep L w t T) (hp : T.N p = some a) (hn : T.N (p ++ [r]) = none) (hb : w.heap.size ≤ b) (hm : T.M p = some m ∨ (T.M p = none ∧ w.heap.size ≤ m ∧ m ≠ b))
    (h1 : w'.heap[b]? = some (.cells #[.map none, L.z, .bool false] L.tn (0, 0))) (h2 : w'.heap[a]? = some (nodeObj L p (some m) (T.f p) T.ps.length))
    (h3 : w'.heap[m]? = some (.map (ents 0 (T.kids p ++ [(r, ptr b)])).toArray ((T.K p).length + 1)))
    (h4 : ∀ k, k < w.heap.size → k ≠ a → k ≠ m → w'.heap[k]? = w.heap[k]?) : Rep L w' t (T.add p r b m) := by
  have h := R.ok
  have hlt : ∀ q c, T.N q = some c → c < w.heap.size := fun q c hq => R.lt (.inl ⟨q, hq⟩)
  have hmlt : ∀ q c, T.M q = some c → c < w.heap.size := fun q c hq => R.lt (.inr ⟨q, hq⟩)
  have hm0 : ∀ q, T.M q = some m → q = p := by
    intro q hq
    rcases hm with hm | ⟨_, hm, _⟩
    · exact h.minj q p m hq hm
    · have := hmlt q m hq; omega
  have hmN : ∀ q, T.N q ≠ some m := by
    intro q hq
    rcases hm with hm | ⟨_, hm, _⟩
    · exact h.dis q p m hq hm
    · have := hlt q m hq; omega
  have hMpr : T.M (p ++ [r]) = none := by
    cases hM : T.M (p ++ [r]) with
    | none => rfl
    | some c => have := h.mdom _ _ hM; rw [hn] at this; cases this
  have hfpr : T.f (p ++ [r]) = none := by
    cases hf : T.f (p ++ [r]) with
    | none => rfl
    | some c => have := h.fdom (p ++ [r]) (by simp [hf]); rw [hn] at this; cases this
  refine ⟨AT.add_ok R hp hn hb hm, fun q c hq => ?_, fun q c hq => ?_⟩
  · simp only [AT.add] at hq ⊢
    split at hq
    · rename_i e
      cases hq
      subst e
      rw [if_neg (snoc_ne p r).symm, hMpr, hfpr, h1]
      simp [nodeObj]
    · by_cases e : q = p
      · subst e
        rw [hp] at hq; cases hq
        rw [if_pos rfl]; exact h2
      · rw [if_neg e, h4 c (hlt q c hq) (fun e' => e (h.inj q p c hq (e' ▸ hp))) (fun e' => hmN q (e' ▸ hq))]
        exact R.node q c hq
  · simp only [AT.add] at hq
    split at hq
    · rename_i e
      cases hq
      subst e
      have hk : (T.add q r b m).kids q = T.kids q ++ [(r, ptr b)] := by
        simp only [AT.kids, AT.add, if_true, List.map_append, List.map_cons, List.map_nil]
        congr 1
        apply List.map_congr_left
        intro s hs
        have : q ++ [s] ≠ q ++ [r] := fun e => by
          obtain ⟨_, rfl⟩ := snoc_inj e
          exact h.notin (by simp [hp]) hn hs
        rw [if_neg this]
      have hK : ((T.add q r b m).K q).length = (T.K q).length + 1 := by simp [AT.add]
      rw [hk, hK]; exact h3
    · rename_i e
      have hk : (T.add p r b m).kids q = T.kids q := by
        simp only [AT.kids, AT.add, if_neg e]
        apply List.map_congr_left
        intro s hs
        have : q ++ [s] ≠ p ++ [r] := fun e' => e (snoc_inj e').1
        rw [if_neg this]
      have hK : (T.add p r b m).K q = T.K q := by simp [AT.add, e]
      have hca : c ≠ a := fun e' => h.dis p q c (e' ▸ hp) hq
      rw [hk, hK, h4 c (hmlt q c hq) hca (fun e' => e (hm0 q (e' ▸ hq)))]
      exact R.map q c hq

theorem own_add {k : Nat} (hk : (T.add p r b m).own k) : T.own k ∨ k = b ∨ k = m := by
  rcases hk with ⟨q, hq⟩ | ⟨q, hq⟩
  · simp only [AT.add] at hq
    split at hq
    · cases hq; exact .inr (.inl rfl)
    · exact .inl (.inl ⟨q, hq⟩)
  · simp only [AT.add] at hq
    split at hq
    · cases hq; exact .inr (.inr rfl)
    · exact .inl (.inr ⟨q, hq⟩)

/-! ### a thing is put, or taken -/
def AT.upd (T : AT) (p : List Int) (x : Option Value) (ps : List (List Int)) : AT := { T with f := fun q => if q = p then x else T.f q, ps := ps }

theorem rep_upd {x : Option Value} {ps : List (List Int)} (R : Rep L w t T) (hp : T.N p = some a) (hn : ps.Nodup) (hps : ∀ q, q ∈ ps ↔ (if q = p then x else T.f q).isSome = true)
    (h1 : w'.heap[a]? = some (nodeObj L p (T.M p) x ps.length)) (h2 : w'.heap[t]? = some (nodeObj L [] (T.M []) (if [] = p then x else T.f []) ps.length))
    (h3 : ∀ k, k < w.heap.size → k ≠ a → k ≠ t → w'.heap[k]? = w.heap[k]?) : Rep L w' t (T.upd p x ps) := by
  have h := R.ok
  refine ⟨⟨h.root, h.pre, h.nodup, h.mnone, h.mdom, h.inj, h.minj, h.dis, fun q hq => ?_, hn, hps, h.dep⟩, fun q c hq => ?_, fun q c hq => ?_⟩
  · simp only [AT.upd] at hq ⊢
    split at hq
    · rename_i e; rw [e, hp]; rfl
    · exact h.fdom q hq
  · simp only [AT.upd] at hq ⊢
    by_cases e : q = p
    · subst e
      rw [hp] at hq; cases hq
      rw [if_pos rfl]; exact h1
    · by_cases e0 : q = []
      · subst e0
        rw [h.root] at hq; cases hq
        exact h2
      · rw [if_neg e, h3 c (R.lt (.inl ⟨q, hq⟩)) (fun e' => e (h.inj q p c hq (e' ▸ hp))) (fun e' => e0 (h.inj q [] c hq (e' ▸ h.root))), R.node q c hq]
        simp [nodeObj, e0]
  · simp only [AT.upd] at hq ⊢
    rw [h3 c (R.lt (.inr ⟨q, hq⟩)) (fun e => h.dis p q c (e ▸ hp) hq) (fun e => h.dis [] q c (e ▸ h.root) hq)]
    exact R.map q c hq
end
/-- A slice's address under which a list of int32 reads. -/
def RdI (w : World) (A : Option Addr) (zs : List Int) : Prop :=
  ∀ k, k < zs.length → ∃ b off, A = some ⟨b, off, none⟩ ∧ w.cell? ⟨b, off + k, none⟩ = some (.int .i32 (zs.getD k 0))
theorem RdI.frame {w w' : World} {A : Option Addr} {zs : List Int} {S : Nat → Prop} (h : RdI w A zs) (hf : Fr S w w') (hs : ∀ ad, A = some ad → zs ≠ [] → ¬ S ad.block) : RdI w' A zs := fun k hk => by
  obtain ⟨b, off, e, hc⟩ := h k hk
  exact ⟨b, off, e, hf.cell hc (hs ⟨b, off, none⟩ e (by intro e'; rw [e'] at hk; simp at hk))⟩
/-- The same, in a block of int32. -/
def RdT (w : World) (A : Option Addr) (zs : List Int) : Prop :=
  ∀ k, k < zs.length → ∃ b off c f, A = some ⟨b, off, none⟩ ∧ w.heap[b]? = some (.cells c 21 f) ∧ c[off + k]? = some (.int .i32 (zs.getD k 0))
theorem RdT.rd {w : World} {A : Option Addr} {zs : List Int} (h : RdT w A zs) : RdI w A zs := fun k hk => by
  obtain ⟨b, off, c, f, e, hb, hc⟩ := h k hk
  exact ⟨b, off, e, by simp [World.cell?, hb, hc]⟩
theorem RdT.nil (w : World) (A : Option Addr) : RdT w A [] := fun k hk => by simp at hk
theorem RdT.frame {w w' : World} {A : Option Addr} {zs : List Int} {S : Nat → Prop} (h : RdT w A zs) (hf : Fr S w w') (hs : ∀ b c f, w.heap[b]? = some (.cells c 21 f) → ¬ S b) : RdT w' A zs := fun k hk => by
  obtain ⟨b, off, c, f, e, hb, hc⟩ := h k hk
  exact ⟨b, off, c, f, e, hf.heap hb (hs b c f hb), hc⟩
theorem RdI.nil (w : World) (A : Option Addr) : RdI w A [] := fun k hk => by simp at hk
theorem take_getD {zs : List Int} {k : Nat} (h : k < zs.length) : zs.take (k + 1) = zs.take k ++ [zs.getD k 0] := by
  rw [List.take_succ_eq_append_getElem h]
  simp [List.getD, h]

theorem heap_set_same {w : World} {b o : Nat} {c : Array Value} {e : TypeId} {f : Nat × Nat} (v : Value) (h : w.heap[b]? = some (.cells c e f)) : (w.setCell ⟨b, o, none⟩ v).heap[b]? = some (.cells (c.setIfInBounds o v) e f) := by
  simp [World.setCell, Array.getElem?_modify, h]
theorem heap_set_ne {w : World} {p : Addr} {k : Nat} (v : Value) (h : k ≠ p.block) : (w.setCell p v).heap[k]? = w.heap[k]? := Below.heap_setCell w p v k h
theorem heap_alloc_lt {w : World} {o : Obj} {k : Nat} (h : k < w.heap.size) : (w.alloc o).heap[k]? = w.heap[k]? := Below.heap_alloc w o k h
theorem heap_alloc_eq (w : World) (o : Obj) : (w.alloc o).heap[w.heap.size]? = some o := by
  show (w.heap.push o)[w.heap.size]? = some o
  simp

theorem node_cells {L : Lay} {w : World} {t : Nat} {T : AT} (R : Rep L w t T) {p : List Int} {b : Nat} (hp : T.N p = some b) :
    w.cell? ⟨b, 0, none⟩ = some (.map (T.M p)) ∧ w.cell? ⟨b, 1, none⟩ = some ((T.f p).getD L.z) ∧ w.cell? ⟨b, 2, none⟩ = some (.bool (T.f p).isSome) := by
  have h := R.node p b hp
  unfold nodeObj at h
  split at h <;> (simp [World.cell?, h])
theorem node_free {L : Lay} {w : World} {t : Nat} {T : AT} (R : Rep L w t T) {p : List Int} {b : Nat} (hp : T.N p = some b) (o : Nat) :
    w.frozen? ⟨b, o, none⟩ = false := by
  have h := R.node p b hp
  unfold nodeObj at h
  split at h <;> (simp [World.frozen?, h])
theorem root_cell {L : Lay} {w : World} {t : Nat} {T : AT} (R : Rep L w t T) : w.cell? ⟨t, 3, none⟩ = some (.int .i64 (T.ps.length : Int)) := by
  have h := R.node [] t R.ok.root
  unfold nodeObj at h
  simp at h
  simp [World.cell?, h]

/-- What stands behind the stores of a thing put or taken: both of the node's cells, and the count. -/
theorem rep_stores {L : Lay} {w : World} {t a : Nat} {T : AT} {p : List Int} {x : Option Value} {ps : List (List Int)} (R : Rep L w t T) (hp : T.N p = some a) (hn : ps.Nodup) (hps : ∀ q, q ∈ ps ↔ (if q = p then x else T.f q).isSome = true) :
    Rep L (((w.setCell ⟨a, 1, none⟩ (x.getD L.z)).setCell ⟨a, 2, none⟩ (.bool x.isSome)).setCell ⟨t, 3, none⟩ (.int .i64 (ps.length : Int))) t (T.upd p x ps) := by
  have hr := R.node [] t R.ok.root
  have ha := R.node p a hp
  by_cases e : p = []
  · subst e
    have : a = t := by have := R.ok.root; rw [hp] at this; injection this
    subst this
    simp only [nodeObj, if_true] at hr
    have h3 := heap_set_same (o := 3) (.int .i64 (ps.length : Int)) (heap_set_same (o := 2) (.bool x.isSome) (heap_set_same (o := 1) (x.getD L.z) hr))
    refine rep_upd R hp hn hps (by rw [h3]; simp [nodeObj]) (by rw [h3]; simp [nodeObj]) (fun k _ hk _ => ?_)
    rw [heap_set_ne _ (by exact hk), heap_set_ne _ (by exact hk), heap_set_ne _ (by exact hk)]
  · have hat : a ≠ t := fun e' => e (R.ok.inj p [] a hp (e' ▸ R.ok.root))
    simp only [nodeObj, if_neg e] at ha
    simp only [nodeObj, if_true] at hr
    have h2 := heap_set_same (o := 2) (.bool x.isSome) (heap_set_same (o := 1) (x.getD L.z) ha)
    refine rep_upd R hp hn hps ?_ ?_ (fun k _ hk hk2 => ?_)
    · rw [heap_set_ne _ (by exact hat), h2]; simp [nodeObj, e]
    · have h0 : ((w.setCell ⟨a, 1, none⟩ (x.getD L.z)).setCell ⟨a, 2, none⟩ (.bool x.isSome)).heap[t]? = some (nodeObj L [] (T.M []) (T.f []) T.ps.length) := by
        rw [heap_set_ne _ (by exact hat.symm), heap_set_ne _ (by exact hat.symm), hr]; simp [nodeObj]
      rw [heap_set_same (o := 3) (.int .i64 (ps.length : Int)) (by simpa [nodeObj] using h0)]
      simp [nodeObj, Ne.symm e]
    · rw [heap_set_ne _ (by exact hk2), heap_set_ne _ (by exact hk), heap_set_ne _ (by exact hk)]

/-- The same where the count stays. -/
theorem rep_stores2 {L : Lay} {w : World} {t a : Nat} {T : AT} {p : List Int} {x : Option Value} (R : Rep L w t T) (hp : T.N p = some a) (hx : x.isSome = true) (hf : (T.f p).isSome = true) :
    Rep L ((w.setCell ⟨a, 1, none⟩ (x.getD L.z)).setCell ⟨a, 2, none⟩ (.bool x.isSome)) t (T.upd p x T.ps) := by
  have hr := R.node [] t R.ok.root
  have ha := R.node p a hp
  have hps : ∀ q, q ∈ T.ps ↔ (if q = p then x else T.f q).isSome = true := fun q => by
    rw [R.ok.psm q]; split
    · rename_i e; subst e; simp [hx, hf]
    · rfl
  by_cases e : p = []
  · subst e
    have : a = t := by have := R.ok.root; rw [hp] at this; injection this
    subst this
    simp only [nodeObj, if_true] at hr
    have h3 := heap_set_same (o := 2) (.bool x.isSome) (heap_set_same (o := 1) (x.getD L.z) hr)
    refine rep_upd R hp R.ok.psn hps (by rw [h3]; simp [nodeObj]) (by rw [h3]; simp [nodeObj]) (fun k _ hk _ => ?_)
    rw [heap_set_ne _ (by exact hk), heap_set_ne _ (by exact hk)]
  · have hat : a ≠ t := fun e' => e (R.ok.inj p [] a hp (e' ▸ R.ok.root))
    simp only [nodeObj, if_neg e] at ha
    have h2 := heap_set_same (o := 2) (.bool x.isSome) (heap_set_same (o := 1) (x.getD L.z) ha)
    refine rep_upd R hp R.ok.psn hps ?_ ?_ (fun k _ hk hk2 => ?_)
    · rw [h2]; simp [nodeObj, e]
    · rw [heap_set_ne _ (by exact hat.symm), heap_set_ne _ (by exact hat.symm), hr]; simp [nodeObj, Ne.symm e]
    · rw [heap_set_ne _ (by exact hk), heap_set_ne _ (by exact hk)]

theorem ps_put {T : AT} {t : Nat} (h : T.Ok t) {p : List Int} (v : Value) (hf : T.f p = none) : (p :: T.ps).Nodup ∧ ∀ q, q ∈ p :: T.ps ↔ (if q = p then some v else T.f q).isSome = true := by
  refine ⟨?_, fun q => ?_⟩
  · rw [List.nodup_cons]; exact ⟨fun hm => (by have := (h.psm p).1 hm; rw [hf] at this; cases this), h.psn⟩
  · by_cases e : q = p
    · simp [e]
    · simp [e, h.psm q]
theorem ps_del {T : AT} {t : Nat} (h : T.Ok t) {p : List Int} : (T.ps.erase p).Nodup ∧ ∀ q, q ∈ T.ps.erase p ↔ (if q = p then none else T.f q).isSome = true := by
  refine ⟨h.psn.erase p, fun q => ?_⟩
  by_cases e : q = p
  · subst e; simp [h.psn.not_mem_erase]
  · simp [e, List.mem_erase_of_ne e, h.psm q]

/-- the longest beginning, of at most k numbers, under which there is a thing -/
def lon (z : Value) (f : List Int → Option Value) (zs : List Int) : Nat → Value × Nat × Bool
  | 0 => ((f []).getD z, 0, (f []).isSome)
  | k + 1 => if (f (zs.take (k + 1))).isSome then ((f (zs.take (k + 1))).getD z, k + 1, true) else lon z f zs k
theorem lon_stop {z : Value} {f : List Int → Option Value} {zs : List Int} {k n : Nat} (hk : k ≤ n) (h : ∀ j, k < j → j ≤ n → f (zs.take j) = none) : lon z f zs n = lon z f zs k := by
  induction n with
  | zero => have : k = 0 := by omega
            rw [this]
  | succ n ih =>
    by_cases e : k = n + 1
    · rw [e]
    · have h1 := h (n + 1) (by omega) (Nat.le_refl _)
      rw [lon, h1, if_neg (by simp)]
      exact ih (by omega) (fun j a b => h j a (by omega))

/-- No row of a node is longer than D, no node has more than m behind it. -/
def AT.Small (T : AT) (D m : Nat) : Prop := (∀ q, (T.N q).isSome = true → q.length ≤ D) ∧ ∀ q, (T.K q).length ≤ m
theorem AT.empty_small (t D : Nat) : (AT.empty t).Small D 0 := by
  refine ⟨fun q h => ?_, fun q => by simp [AT.empty]⟩
  simp only [AT.empty] at h
  split at h
  · rename_i e; subst e; simp
  · cases h
/-- New numbers behind a row come from zs alone. -/
def AT.Grew (T T' : AT) (zs : List Int) : Prop := ∀ p r, r ∈ T'.K p → r ∈ T.K p ∨ ∃ s, zs = p ++ r :: s
/-- What a put in its midst keeps of it: k numbers of zs are gone. -/
def AT.SmallTo (T T' : AT) (zs : List Int) (k : Nat) : Prop :=
  (∀ D m, T.Small D m → zs.length ≤ D → (∀ q, (T'.N q).isSome = true → q.length ≤ D) ∧ ∀ q, (T'.K q).length ≤ m + (if q.length < k then 1 else 0)) ∧ T.Grew T' zs
theorem AT.SmallTo.refl (T : AT) (zs : List Int) : T.SmallTo T zs 0 := ⟨fun D m h _ => ⟨h.1, fun q => by simpa using h.2 q⟩, fun _ _ h => .inl h⟩
theorem AT.SmallTo.next {T T' : AT} {zs : List Int} {k : Nat} (h : T.SmallTo T' zs k) : T.SmallTo T' zs (k + 1) := ⟨fun D m h1 h2 => by
  refine ⟨(h.1 D m h1 h2).1, fun q => ?_⟩
  have := (h.1 D m h1 h2).2 q
  split at this <;> split <;> omega, h.2⟩
theorem AT.SmallTo.add {T T' : AT} {zs : List Int} {k : Nat} (h : T.SmallTo T' zs k) (hk : k < zs.length) {p : List Int} {r : Int} (hp : zs.take (k + 1) = p ++ [r]) (b m0 : Nat) : T.SmallTo (T'.add p r b m0) zs (k + 1) := by
  refine ⟨fun D m h1 h2 => ?_, fun q x hx => ?_⟩
  rotate_left
  · simp only [AT.add] at hx
    split at hx
    · rename_i e
      rcases List.mem_append.1 hx with h1 | h1
      · exact h.2 q x (by rw [e]; exact h1)
      · have e2 : x = r := by simpa using h1
        refine .inr ⟨zs.drop (k + 1), ?_⟩
        have e3 := List.take_append_drop (k + 1) zs
        rw [hp] at e3
        rw [e, e2]
        exact e3.symm.trans (by simp)
    · exact h.2 q x hx
  have hl : p.length = k := by
    have := congrArg List.length hp
    simp at this
    omega
  have h3 := h.1 D m h1 h2
  refine ⟨fun q hq => ?_, fun q => ?_⟩
  · simp only [AT.add] at hq
    split at hq
    · rename_i e; rw [e]; simp; omega
    · exact h3.1 q hq
  · simp only [AT.add]
    have h4 := h3.2 q
    by_cases e : q = p
    · subst e
      rw [if_pos rfl, if_pos (by omega)]
      rw [if_neg (by omega)] at h4
      simp; omega
    · rw [if_neg e]
      split at h4 <;> split <;> omega

/-- What Put comes to. -/
def PutPost (L : Lay) (w : World) (t : Nat) (T : AT) (zs : List Int) (x : Value) (e : Ending) (w' : World) : Prop :=
  e = .returned (.bool (T.f zs).isSome) ∧ ∃ T', Rep L w' t T' ∧ T'.f = (fun q => if q = zs then some x else T.f q) ∧
      T'.ps = (if (T.f zs).isSome = true then T.ps else zs :: T.ps) ∧ Fr T.own w w' ∧ (∀ j, T'.own j → T.own j ∨ w.heap.size ≤ j) ∧ (∀ D m, T.Small D m → zs.length ≤ D → T'.Small D (m + 1)) ∧ T.Grew T' zs
end Go.Proofs.Ytioflglfnalcaaa

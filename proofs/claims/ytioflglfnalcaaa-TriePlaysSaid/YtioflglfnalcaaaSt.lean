/- The steps of a caller of Trie[int]: what each call does to the trie. -/
import Derived.Test.YtioflglfnalcaaaWb
import Derived.Test.YtioflglfnalcaaaWc
import Derived.Test.YtioflglfnalcaaaWd
import Derived.Test.YtioflglfnalcaaaWj
namespace Go.Proofs.Ytioflglfnalcaaa
open Go.RowKit

/-- A trie got since w0, with things f under ps; D and m bound its nodes' depth and kids. -/
structure St (L : Lay) (w0 : World) (t : Nat) (f : List Int → Option Value) (ps : List (List Int)) (D m : Nat) (T : AT) (w : World) : Prop where
  rep : Rep L w t T
  hf : T.f = f
  hps : T.ps = ps
  small : T.Small D m
  own : ∀ j, T.own j → w0.heap.size ≤ j
  below : Below w0.heap.size w0 w

section
variable {L : Lay} {w0 w w' : World} {t : Nat} {f : List Int → Option Value} {ps : List (List Int)} {D m : Nat} {T : AT}
theorem St.fr (h : St L w0 t f ps D m T w) (k : Fr Nob w w') : St L w0 t f ps D m T w' :=
  { h with rep := h.rep.frame k fun _ _ h => h, below := h.below.trans (k.below h.below.size fun _ h => h.elim) }
theorem St.new (h : St L w0 t f ps D m T w) (k : Below w.heap.size w w') : St L w0 t f ps D m T w' := h.fr (Fr.of_below k Nob)
theorem St.drewN (h : St L w0 t f ps D m T w) (n : Nat) : St L w0 t f ps D m T (w.drewN n) := h.fr ((Fr.refl _ _).drewN n)
end

theorem rep_drewN {L : Lay} {w : World} {t : Nat} {T : AT} (h : Rep L w t T) (n : Nat) : Rep L (w.drewN n) t T := h.frame ((Fr.refl Nob _).drewN n) fun _ _ h => h

theorem st_new (w : World) : Calls Try.prog 9 #[] w fun e w' => ∃ t, e = .returned (ptr t) ∧ St Li w t (fun _ => none) [] 0 0 (AT.empty t) w' :=
  (new_i w).mono fun e w' ⟨h1, h2, h3⟩ => ⟨_, h1, ⟨h2, rfl, rfl, AT.empty_small _ _, (fun j hj => by
    rcases hj with ⟨p, hp⟩ | ⟨p, hp⟩
    · simp only [AT.empty] at hp
      split at hp
      · injection hp with hp; omega
      · cases hp
    · cases hp), by rw [h3]; exact (Below.refl _ w).alloc (Nat.le_refl _) _⟩⟩

variable {w0 w : World} {t : Nat} {f : List Int → Option Value} {ps : List (List Int)} {D m : Nat} {T : AT}

/-- A fresh list, the trie as it was. -/
def RunesP (w0 : World) (t : Nat) (f : List Int → Option Value) (ps : List (List Int)) (D m : Nat) (T : AT) (zs : List Int) (e : Ending) (w' : World) : Prop :=
  ∃ A cap, e = .returned (.slice (some A) zs.length cap) ∧ RdI w' (some A) zs ∧ ¬ T.own A.block ∧ St Li w0 t f ps D m T w'
theorem st_runes (S : St Li w0 t f ps D m T w) (s : ByteArray) (zs : List Int) (hs : Conv.runesFrom s s.size 0 #[] = (zs.map (Value.int .i32)).toArray) (hlen : zs.length ≤ 70368744177664) :
    Calls Try.prog 31 #[.string s] w (RunesP w0 t f ps D m T zs) :=
  (runes_any w s zs hs hlen).mono fun e w' ⟨A, cap, h1, h2, h3, h4, h5⟩ => ⟨A, cap, h1, h2, fun ho => by have := S.rep.lt ho; omega, S.fr h5⟩

def PutP (w0 : World) (t : Nat) (b : Bool) (f : List Int → Option Value) (ps : List (List Int)) (D m : Nat) (e : Ending) (w' : World) : Prop :=
  e = .returned (.bool b) ∧ ∃ T', St Li w0 t f ps D m T' w'
theorem st_put (S : St Li w0 t f ps D m T w) (A : Option Addr) (cap : Nat) (zs : List Int) (n : Int) (hlen : zs.length ≤ 140737488351232) (hr : RdI w A zs) (ha : ∀ ad, A = some ad → zs ≠ [] → ¬ T.own ad.block) (hps : ps.length ≤ 140737488351232)
    {b : Bool} (hb : (f zs).isSome = b) {ps' : List (List Int)} (hp : (if b = true then ps else zs :: ps) = ps') {D' : Nat} (hD : D ≤ D') (hz : zs.length ≤ D') :
    Calls Try.prog 14 #[ptr t, .slice A zs.length cap, .int .i64 n] w (PutP w0 t b (fun q => if q = zs then some (.int .i64 n) else f q) ps' D' (m + 1)) := by
  refine (put_i w t T A cap zs n S.rep hlen hr ha (by rw [S.hps]; exact hps)).mono ?_
  rintro e w' ⟨h1, T', h2, h3, h4, h5, h6, h7, _⟩
  rw [S.hf] at h1 h3 h4
  rw [S.hps] at h4
  rw [hb] at h1 h4
  refine ⟨h1, T', h2, h3, h4.trans hp, h7 D' m ⟨fun q hq => Nat.le_trans (S.small.1 q hq) hD, S.small.2⟩ hz, fun j hj => ?_, S.below.trans (h5.below S.below.size fun j hj => S.own j hj)⟩
  rcases h6 j hj with h | h
  · exact S.own j h
  · have := S.below.size; omega

def GetP (v : Value) (b : Bool) (w : World) (e : Ending) (w' : World) : Prop :=
  e = .returned (.tuple #[v, .bool b]) ∧ w = w'
theorem st_get (S : St Li w0 t f ps D m T w) (A : Option Addr) (cap : Nat) (zs : List Int) (hlen : zs.length ≤ 140737488351232) (hr : RdI w A zs) {b : Bool} (hb : (f zs).isSome = b) {v : Value} (hv : (f zs).getD (.int .i64 0) = v) :
    Calls Try.prog 16 #[ptr t, .slice A zs.length cap] w (GetP v b w) :=
  (get_i w t T A cap zs S.rep hlen hr).mono fun e w' ⟨h1, h2⟩ => ⟨by rw [h1, S.hf, hb, hv], h2⟩

def LongP (v : Value) (n : Nat) (b : Bool) (w : World) (e : Ending) (w' : World) : Prop := e = .returned (.tuple #[v, .int .i64 n, .bool b]) ∧ ∃ k, w' = w.drewN k
theorem st_long (S : St Li w0 t f ps D m T w) (A : Option Addr) (cap : Nat) (zs : List Int) (hlen : zs.length ≤ 140737488351232) (hr : RdI w A zs) {v : Value} {n : Nat} {b : Bool} (hv : lon (.int .i64 0) f zs zs.length = (v, n, b)) :
    Calls Try.prog 15 #[ptr t, .slice A zs.length cap] w (LongP v n b w) :=
  (longest_i w t T A cap zs S.rep hlen hr).mono fun e w' ⟨h1, h2⟩ => ⟨by rw [h1, S.hf, hv], h2⟩

theorem st_len (S : St Li w0 t f ps D m T w) {n : Nat} (hn : ps.length = n) : Calls Try.prog 35 #[ptr t] w fun e w' => e = .returned (.int .i64 (n : Int)) ∧ w = w' :=
  (len_i w t T S.rep).mono fun e w' ⟨h1, h2⟩ => ⟨by rw [h1, S.hps, hn], h2⟩

theorem st_take (S : St Li w0 t f ps D m T w) (A : Option Addr) (cap : Nat) (zs : List Int) (hlen : zs.length ≤ 140737488351232) (hr : RdI w A zs) (hps : ps.length ≤ 140737488351232)
    {b : Bool} (hb : (f zs).isSome = b) {ps' : List (List Int)} (hp : ps.erase zs = ps') :
    Calls Try.prog 34 #[ptr t, .slice A zs.length cap] w (PutP w0 t b (fun q => if q = zs then none else f q) ps' D m) := by
  refine (take_i w t T A cap zs S.rep hlen hr (by rw [S.hps]; exact hps)).mono ?_
  rintro e w' ⟨h1, h2, h3⟩
  rw [S.hf, hb] at h1
  exact ⟨h1, _, h2, by rw [← S.hf]; rfl, by rw [← hp, ← S.hps]; rfl, S.small, S.own, S.below.trans (h3.below S.below.size fun j hj => S.own j hj)⟩

theorem sum_le_mul (l : List Int) (g : Int → Nat) (c : Nat) (h : ∀ x, g x ≤ c) : (l.map g).sum ≤ l.length * c := by
  induction l with
  | nil => simp
  | cons x l ih =>
    have := h x
    simp only [List.map_cons, List.sum_cons, List.length_cons, Nat.succ_mul]
    omega
theorem dfs_le (h : ∀ q, (T.K q).length ≤ m) : ∀ (n : Nat) (p : List Int), (dfs T n p).length ≤ (m + 1) ^ n
  | 0, p => by simp [dfs]
  | n + 1, p => by
    rw [dfs_succ]
    have h1 : ((srt (T.K p)).flatMap fun r => dfs T n (p ++ [r])).length ≤ (srt (T.K p)).length * (m + 1) ^ n := by
      rw [List.length_flatMap]
      exact sum_le_mul _ _ _ fun r => dfs_le h n _
    have h2 : (srt (T.K p)).length ≤ m := by rw [srt_length]; exact h p
    have h3 : (srt (T.K p)).length * (m + 1) ^ n ≤ m * (m + 1) ^ n := Nat.mul_le_mul_right _ h2
    have h4 : 0 < (m + 1) ^ n := Nat.pow_pos (by omega)
    have h5 : (m + 1) ^ (n + 1) = m * (m + 1) ^ n + (m + 1) ^ n := by rw [Nat.pow_succ, Nat.mul_add, Nat.mul_comm, Nat.mul_one]
    rw [List.length_append, h5]
    have h6 : ∀ o : Option Value, (match o with | some v => [(p, v)] | none => []).length ≤ 1 := by intro o; cases o <;> simp
    have h7 := h6 (T.f p)
    refine Nat.le_trans (Nat.add_le_add h7 (Nat.le_trans h1 h3)) ?_
    omega

def SomeFunc (S : World → Prop) (e : Ending) (w' : World) : Prop := ∃ br bt, e = .returned (.func (.func 48) #[] #[ptr br, ptr bt]) ∧ S w'
theorem st_below (S : St Li w0 t f ps D m T w) (A : Option Addr) (cap : Nat) (zs : List Int) (hr : RdI w A zs) (hn : A = none → cap = 0) (hlen : zs.length ≤ 35184372088000) (hm : m ≤ 12) (hD : D < 35184372088000) (hint : ∀ p v, f p = some v → ∃ x, v = .int .i64 x)
    (hpow : (m + 1) ^ (D + 1) ≤ 5864062014805) : Calls Try.prog 13 #[ptr t, .slice A zs.length cap] w (BelowPost 43 64 3 48 w (belowRes T (D + 1) zs)) := by
  refine below_i (N := 12) (D := D + 1) sort_small (by omega) (by omega) w t T A cap zs S.rep hr hn hlen ⟨fun q hq => Nat.le_trans (S.small.1 q hq) (by omega), fun q => Nat.le_trans (S.small.2 q) hm⟩ (by rw [S.hf]; exact hint) (fun p hp => Nat.lt_succ_of_le (S.small.1 p hp)) ?_
  unfold belowRes
  split
  · simp
  · exact Nat.le_trans (Nat.le_trans (dfs_le S.small.2 _ _) (Nat.pow_le_pow_right (by omega) (by omega))) hpow
theorem st_all (S : St Li w0 t f ps D m T w) (hm : m ≤ 12) (hD : D < 35184372088000) (hint : ∀ p v, f p = some v → ∃ x, v = .int .i64 x)
    (hpow : (m + 1) ^ (D + 1) ≤ 5864062014805) : Calls Try.prog 10 #[ptr t] w (BelowPost 43 64 3 48 w (belowRes T (D + 1) [])) := by
  refine all_i (N := 12) (D := D + 1) sort_small (by omega) (by omega) w t T S.rep ⟨fun q hq => Nat.le_trans (S.small.1 q hq) (by omega), fun q => Nat.le_trans (S.small.2 q) hm⟩ (by rw [S.hf]; exact hint) (fun p hp => Nat.lt_succ_of_le (S.small.1 p hp)) ?_
  unfold belowRes
  split
  · simp
  · exact Nat.le_trans (Nat.le_trans (dfs_le S.small.2 _ _) (Nat.pow_le_pow_right (by omega) (by omega))) hpow
end Go.Proofs.Ytioflglfnalcaaa

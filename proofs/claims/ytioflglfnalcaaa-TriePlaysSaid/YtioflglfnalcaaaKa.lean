/- What TrieKnown's helpers answer: got, longest; Put with its frame. -/
import Derived.Test.YtioflglfnalcaaaSt
import Derived.Test.YtioflglfnalcaaaDf
namespace Go.Proofs.Ytioflglfnalcaaa
open Go.RowKit

variable {w0 w : World} {t : Nat} {f : List Int → Option Value} {ps : List (List Int)} {D m : Nat} {T : AT}

theorem convert_runes (w : World) (s : ByteArray) (zs : List Int) (hs : Conv.runesFrom s s.size 0 #[] = (zs.map (Value.int .i32)).toArray) (hlen : zs.length ≤ 70368744177664) :
    ∃ b cap w', (convert 9 36 (.string s)).run Try.prog w = .ok (.slice (some ⟨b, 0, none⟩) zs.length cap) w' ∧ RdI w' (some ⟨b, 0, none⟩) zs ∧ w.heap.size ≤ b ∧ Fr Nob w w' := by
  have hsz : (Conv.runesFrom s s.size 0 #[]).size = zs.length := by rw [hs]; simp
  have h := run_runes_of_string (P := Try.prog) w 9 36 21 s Try.underlying9 Try.underlying36 Try.underlying21 (by rw [hsz]; exact hlen)
  rw [hsz, hs] at h
  exact ⟨_, _, _, h, rdI_of_cells (heap_alloc_eq w.drew _), Nat.le_refl _, (Fr.refl _ _).drew.alloc _⟩

def TrueP (w : World) (e : Ending) (w' : World) : Prop := e = .returned (.bool true) ∧ Fr Nob w w'

set_option maxHeartbeats 400000 in
set_option maxRecDepth 100000 in
theorem got_i (S : St Li w0 t f ps D m T w) (s : ByteArray) (zs : List Int) (x : Int) (ok : Bool) (hs : Conv.runesFrom s s.size 0 #[] = (zs.map (Value.int .i32)).toArray) (hlen : zs.length ≤ 70368744177664)
    (hb : (f zs).isSome = ok) (hv : (f zs).getD (.int .i64 0) = .int .i64 x) : Calls Try.prog 32 #[ptr t, .string s, .int .i64 x, .bool ok] w (TrueP w) := by
  obtain ⟨b, cap, w', hcv, hr, _, hF⟩ := convert_runes w s zs hs hlen
  have hget := Lib.hid (st_get (S.fr hF) (some ⟨b, 0, none⟩) cap zs (by omega) hr hb hv)
  replace hF := Lib.hid hF
  clear S hb hv hs hlen hr
  generalize zs.length = n at *
  go_enter Try.func32, Try.ntmps32
  go_wp2_with fail
  refine hget.out.mono ?_
  rintro e _ ⟨rfl, rfl⟩
  go_wp2_with fail
  go_ret
  exact ⟨by simp, hF.out⟩

set_option maxHeartbeats 400000 in
set_option maxRecDepth 100000 in
theorem longest33_i (S : St Li w0 t f ps D m T w) (s : ByteArray) (zs : List Int) (x : Int) (n : Nat) (ok : Bool) (hs : Conv.runesFrom s s.size 0 #[] = (zs.map (Value.int .i32)).toArray) (hlen : zs.length ≤ 70368744177664)
    (hv : lon (.int .i64 0) f zs zs.length = (.int .i64 x, n, ok)) (nI : Int) (hn : nI = (n : Int)) : Calls Try.prog 33 #[ptr t, .string s, .int .i64 x, .int .i64 nI, .bool ok] w (TrueP w) := by
  obtain ⟨b, cap, w', hcv, hr, _, hF⟩ := convert_runes w s zs hs hlen
  have hget := st_long (S.fr hF) (some ⟨b, 0, none⟩) cap zs (by omega) hr hv
  unfold LongP at hget
  rw [← hn] at hget
  replace hget := Lib.hid hget
  replace hF := Lib.hid hF
  clear S hv hs hlen hr hn
  generalize zs.length = n at *
  go_enter Try.func33, Try.ntmps33
  go_wp2_with fail
  refine hget.out.mono ?_
  rintro e _ ⟨rfl, k, rfl⟩
  go_wp2_with fail
  go_ret
  exact ⟨by simp, hF.out.drewN k⟩

def PutF (w0 : World) (t : Nat) (b : Bool) (f : List Int → Option Value) (ps : List (List Int)) (D m : Nat) (T : AT) (w : World) (e : Ending) (w' : World) : Prop :=
  e = .returned (.bool b) ∧ ∃ T', St Li w0 t f ps D m T' w' ∧ Fr T.own w w' ∧ ∀ j, T'.own j → T.own j ∨ w.heap.size ≤ j
theorem stf_put (S : St Li w0 t f ps D m T w) (A : Option Addr) (cap : Nat) (zs : List Int) (n : Int) (hlen : zs.length ≤ 140737488351232) (hr : RdI w A zs) (ha : ∀ ad, A = some ad → zs ≠ [] → ¬ T.own ad.block) (hps : ps.length ≤ 140737488351232)
    {b : Bool} (hb : (f zs).isSome = b) {ps' : List (List Int)} (hp : (if b = true then ps else zs :: ps) = ps') {D' : Nat} (hD : D ≤ D') (hz : zs.length ≤ D') :
    Calls Try.prog 14 #[ptr t, .slice A zs.length cap, .int .i64 n] w (PutF w0 t b (fun q => if q = zs then some (.int .i64 n) else f q) ps' D' (m + 1) T w) := by
  refine (put_i w t T A cap zs n S.rep hlen hr ha (by rw [S.hps]; exact hps)).mono ?_
  rintro e w' ⟨h1, T', h2, h3, h4, h5, h6, h7, _⟩
  rw [S.hf] at h1 h3 h4
  rw [S.hps] at h4
  rw [hb] at h1 h4
  refine ⟨h1, T', ⟨h2, h3, h4.trans hp, h7 D' m ⟨fun q hq => Nat.le_trans (S.small.1 q hq) hD, S.small.2⟩ hz, fun j hj => ?_, S.below.trans (h5.below S.below.size fun j hj => S.own j hj)⟩, h5, h6⟩
  rcases h6 j hj with h | h
  · exact S.own j h
  · have := S.below.size; omega
end Go.Proofs.Ytioflglfnalcaaa

/- The walk of Below's inner function at Trie[int]: the loop over the children. -/
import Derived.Test.YtioflglfnalcaaaWh
namespace Go.Proofs.Ytioflglfnalcaaa
open Go.RowKit

/-- All rows below p under which there is a thing, in order: so deep. -/
def dfs (T : AT) : Nat → List Int → List (List Int × Value)
  | 0, _ => []
  | n + 1, p => (match T.f p with | some v => [(p, v)] | none => []) ++ (srt (T.K p)).flatMap fun r => dfs T n (p ++ [r])

def WPost (B : Nat) (w0 : World) (br bt : Nat) (rows : List (List Int)) (vals : List Value) (res : List (List Int × Value)) (e : Ending) (w' : World) : Prop :=
  e = .returned (.tuple #[]) ∧ (∃ rv tv rvals, Coll 43 64 3 B w' br bt rv tv rvals (vals ++ res.map (·.2)) (rows ++ res.map (·.1))) ∧ FB [43, 64, 36, 3] B w0 w'

/-- The state of 'walk(at.next[r], append(row[:len(row):len(row)], r))' ahead of the call. -/
structure R5 (w0 : World) (b c : Nat) (A : Option Addr) (cap : Nat) (p : List Int) (r : Int) (clo : Value) (M0 : Option Nat) (L : Nat → Bool) (w : World) (x36 x37 x38 x39 x40 x41 x42 x43 x44 x45 x46 x47 x48 x49 x50 x51 x52 : Value) : Prop where
  hb : Below w0.heap.size w0 w
  e0 : L 0 = true → x36 = clo
  e1 : L 1 = true → x37 = ptr b
  e2 : L 2 = true → x38 = ptr b
  e3 : L 3 = true → x39 = ptr b
  e4 : L 4 = true → x40 = .map M0
  e5 : L 5 = true → x41 = .int .i32 r
  e6 : L 6 = true → x42 = ptr c
  e7 : L 7 = true → x43 = .slice A p.length cap
  e8 : L 8 = true → x44 = .slice A p.length cap
  e9 : L 9 = true → x45 = .int .i64 (p.length : Int)
  e10 : L 10 = true → x46 = .slice A p.length cap
  e11 : L 11 = true → x47 = .int .i64 (p.length : Int)
  e12 : L 12 = true → x48 = .slice A p.length p.length
  e13 : L 13 = true → x49 = .int .i32 r
  e14 : L 14 = true → ∃ bk, x50 = .slice (some ⟨bk, 0, none⟩) 1 1 ∧ w.heap[bk]? = some (.cells #[.int .i32 r] 21 (0, 0))
  e15 : L 15 = true → ∃ A3 cap3, x51 = .slice A3 (p.length + 1) cap3 ∧ RdT w A3 (p ++ [r]) ∧ p.length + 1 ≤ cap3

theorem R5.new {w0 : World} {b c : Nat} {A : Option Addr} {cap : Nat} {p : List Int} {r : Int} {clo : Value} {M0 : Option Nat} {L : Nat → Bool} {w w1 : World} {x36 x37 x38 x39 x40 x41 x42 x43 x44 x45 x46 x47 x48 x49 x50 x51 x52 : Value} (h : R5 w0 b c A cap p r clo M0 L w x36 x37 x38 x39 x40 x41 x42 x43 x44 x45 x46 x47 x48 x49 x50 x51 x52) (k : Below w.heap.size w w1) : R5 w0 b c A cap p r clo M0 L w1 x36 x37 x38 x39 x40 x41 x42 x43 x44 x45 x46 x47 x48 x49 x50 x51 x52 :=
  { h with
    hb := h.hb.trans (k.mono h.hb.size)
    e14 := fun e => by
      obtain ⟨bk, h1, h2⟩ := h.e14 e
      exact ⟨bk, h1, (k.block bk (lt_of_heap h2)).trans h2⟩
    e15 := fun e => by
      obtain ⟨A3, cap3, h1, h2, h3⟩ := h.e15 e
      exact ⟨A3, cap3, h1, h2.new k, h3⟩ }

def fr5 (pre : List Value) (x36 x37 x38 x39 x40 x41 x42 x43 x44 x45 x46 x47 x48 x49 x50 x51 x52 u53 : Value) : Act := { tmps := (pre ++ [x36, x37, x38, x39, x40, x41, x42, x43, x44, x45, x46, x47, x48, x49, x50, x51, x52, u53]).toArray, defers := [] }
def J5 (w0 : World) (b c : Nat) (A : Option Addr) (cap : Nat) (p : List Int) (r : Int) (clo : Value) (M0 : Option Nat) (Post : World → Prop) (pre : List Value) (u53 : Value) (L : Nat → Bool) (a : Act) (w : World) : Prop :=
  ∃ x36 x37 x38 x39 x40 x41 x42 x43 x44 x45 x46 x47 x48 x49 x50 x51 x52, a = fr5 pre x36 x37 x38 x39 x40 x41 x42 x43 x44 x45 x46 x47 x48 x49 x50 x51 x52 u53 ∧ (L 16 = false → R5 w0 b c A cap p r clo M0 L w x36 x37 x38 x39 x40 x41 x42 x43 x44 x45 x46 x47 x48 x49 x50 x51 x52) ∧ (L 16 = true → Post w ∧ ∀ i, i < 16 → L i = true)

noncomputable def rest43 : Code := match Try.f43.body with
  | some (.seq _ c) => c
  | _ => .skip

theorem mapIs_of {L : Lay} {w : World} {t : Nat} {T : AT} (R : Rep L w t T) (p : List Int) : MapIs w (T.M p) (T.kids p) := by
  unfold MapIs
  cases hm : T.M p with
  | none => simp [AT.kids, R.ok.mnone p hm]
  | some m => have := R.map p m hm; simpa [AT.kids] using this

theorem MapIs.alloc {w : World} {mo : Option Nat} {es : List (Int × Value)} (h : MapIs w mo es) (o : Obj) : MapIs (w.alloc o) mo es := by
  cases mo with
  | none => exact h
  | some m => exact (heap_alloc_lt (lt_of_heap h)).trans h

/-- What a walk below p is promised. -/
def WalkOk (T : AT) (t B br bt bw fuel : Nat) (p : List Int) : Prop := ∀ (w : World) (b : Nat) (A : Option Addr) (cap : Nat) (rv tv : Value) (rvals vals : List Value) (rows : List (List Int)),
  Rep Li w t T → T.N p = some b → RdT w A p → (A = none → cap = 0) → p.length ≤ cap → p.length + fuel ≤ 35184372088000 → Coll 43 64 3 B w br bt rv tv rvals vals rows → w.heap[bw]? = some (.cells #[.func (.func 43) #[] #[ptr br, ptr bt, ptr bw]] 84 (0, 0)) →
  rows.length + (dfs T fuel p).length ≤ 5864062014805 → vals.length + (dfs T fuel p).length ≤ 5864062014805 →
  Calls Try.prog 43 #[ptr b, .slice A p.length cap, ptr br, ptr bt, ptr bw] w (WPost B w br bt rows vals (dfs T fuel p))

set_option maxHeartbeats 1000000 in
set_option maxRecDepth 100000 in
theorem rest_i {N : Nat} (hS : SortOk N) (B : Nat) (w : World) (t : Nat) (T : AT) (p : List Int) (b br bt bw : Nat) (A : Option Addr) (cap : Nat) (rv tv : Value) (rvals vals : List Value) (rows : List (List Int)) (rest : Nat)
    (hst : T.Small 35184372088000 N) (hN : N ≤ 35184372088832)
    (R : Rep Li w t T) (hown : ∀ k, T.own k → k < B) (hp : T.N p = some b) (hA : RdT w A p) (hn : A = none → cap = 0) (hcap : p.length ≤ cap) (hC : Coll 43 64 3 B w br bt rv tv rvals vals rows)
    (hplr : p.length + 1 + rest ≤ 35184372088000) (hbw : w.heap[bw]? = some (.cells #[.func (.func 43) #[] #[ptr br, ptr bt, ptr bw]] 84 (0, 0)))
    (IH : ∀ r, r ∈ T.K p → WalkOk T t B br bt bw rest (p ++ [r]))
    (hl1 : rows.length + ((srt (T.K p)).flatMap fun r => dfs T rest (p ++ [r])).length ≤ 5864062014805) (hl2 : vals.length + ((srt (T.K p)).flatMap fun r => dfs T rest (p ++ [r])).length ≤ 5864062014805)
    (y12 x13 x14 x15 x16 x17 x18 x19 x20 x21 x22 x23 x24 : Value) :
    rest43.wp Try.prog (bodyPost Try.prog Try.f43 (WPost B w br bt rows vals ((srt (T.K p)).flatMap fun r => dfs T rest (p ++ [r])))) (frW b br bt bw (.slice A p.length cap) y12 x13 x14 x15 x16 x17 x18 x19 x20 x21 x22 x23 x24) w := by
  have hm := (node_cells R hp).1
  have hkl : (T.kids p).length = (T.K p).length := by simp [AT.kids]
  have hkN := hst.2 p
  have hkeys : (T.kids p).map (·.1) = T.K p := by simp [AT.kids, Function.comp_def]
  have HS := sorted_i hS w.heap.size (T.M p) (T.kids p) (by omega) (by omega) (w.alloc (.cells #[.map (T.M p)] 74)) (by simp) (by rw [cell_of_row _ _ _ _ _ _ (heap_alloc_eq w (.cells #[.map (T.M p)] 74))]; rfl)
    ((mapIs_of R p).alloc _)
  rw [hkeys] at HS
  replace HS := Lib.hid HS
  have HC := Lib.hid hC
  have HA := Lib.hid hA
  have Hbw := Lib.hid hbw
  have Hp := Lib.hid hp
  clear hC hA hbw hp hkeys
  unfold rest43 frW
  dsimp only [Try.f43]
  generalize hM0 : T.M p = M0 at hm HS
  have HM0 := Lib.hid hM0
  clear hM0
  go_wp2_with fail
  refine (keys_i M0 _).mono ?_
  rintro e w2 ⟨rfl, rfl⟩
  go_wp2_with fail
  refine HS.out.mono ?_
  rintro e w2 ⟨A2, cap2, rfl, g1, g2, g3, g4, g5⟩
  replace g3 := Lib.hid g3
  replace g4 := Lib.hid g4
  replace g5 := Lib.hid g5
  have hlen : (srt (T.K p)).length = (T.K p).length := srt_length _
  have hzl : (srt (T.K p)).length ≤ 35184372088832 := by rw [hlen]; omega
  have hFB : FB [43, 64, 36, 3] B w w2 := (FB.refl.alloc _).new g5.out
  have hC2 := (HC.out.new ((Below.refl _ w).alloc (Nat.le_refl _) (.cells #[.map M0] 74))).new g5.out
  have hmem : ∀ r, r ∈ srt (T.K p) → r ∈ T.K p := fun r h => (srt_perm _).mem_iff.1 h
  have H0 : Hid ((∃ rv tv rvals, Coll 43 64 3 B w2 br bt rv tv rvals (vals ++ (((srt (T.K p)).take 0).flatMap fun r => dfs T rest (p ++ [r])).map (·.2)) (rows ++ (((srt (T.K p)).take 0).flatMap fun r => dfs T rest (p ++ [r])).map (·.1))) ∧ FB [43, 64, 36, 3] B w w2 ∧ FB [43, 64, 36, 3] B w2 w2) :=
    ⟨⟨rv, tv, rvals, by simpa using hC2⟩, hFB, FB.refl⟩
  generalize hzs : srt (T.K p) = zs at *
  replace hzs := Lib.hid hzs
  have Hmem := Lib.hid hmem
  have HIH := Lib.hid IH
  have HR := Lib.hid R
  have Hhl1 := Lib.hid hl1
  have Hhl2 := Lib.hid hl2
  have Hbl : Hid (b < w.heap.size ∧ B ≤ w.heap.size) := ⟨R.lt (own_N Hp.out), by have := HC.out.box.lt; have := HC.out.hb; omega⟩
  clear HC hlen hFB hC2 hmem IH R hl1 hl2
  go_wp2
  go_loopw [32] (fun i wr => ∃ k : Nat, k ≤ zs.length ∧ i = .int .i64 k ∧ Hid ((∃ rv tv rvals, Coll 43 64 3 B wr br bt rv tv rvals (vals ++ ((zs.take k).flatMap fun r => dfs T rest (p ++ [r])).map (·.2)) (rows ++ ((zs.take k).flatMap fun r => dfs T rest (p ++ [r])).map (·.1))) ∧ FB [43, 64, 36, 3] B w wr ∧ FB [43, 64, 36, 3] B w2 wr)) (fun i _ => zs.length - (intOf i).toNat)
  case atStart => exact ⟨0, by omega, rfl, H0⟩
  case round =>
    obtain ⟨k, hk, rfl, hrel⟩ := hrel
    obtain ⟨⟨rv1, tv1, rvals1, hC1⟩, hF1, hF2⟩ := hrel.out
    by_cases hlt : k < zs.length
    · obtain ⟨ab, off, e1, hc⟩ := (hF2.rdT g3.out (by decide)).rd k hlt
      cases e1
      have ht := Lib.hid (take_getD hlt)
      have hrm : Hid (zs.getD k 0 ∈ T.K p) := Hmem.out _ (by simp [List.getD, hlt])
      have HC1 := Lib.hid hC1
      have HF1 := Lib.hid hF1
      have HF2 := Lib.hid hF2
      have hB1 := hF1.below Hbl.out.2
      clear hC1 hF1 hF2
      generalize zs.getD k 0 = r at hc ht hrm
      obtain ⟨c, hcN⟩ : ∃ c, T.N (p ++ [r]) = some c := Option.isSome_iff_exists.1 ((HR.out.ok.pre p r).2 ⟨by rw [Hp.out]; rfl, hrm.out⟩)
      replace hcN := Lib.hid hcN
      go_wp2
      have Hle : Hid (((zs.take k).flatMap fun r => dfs T rest (p ++ [r])).length + (dfs T rest (p ++ [r])).length ≤ (zs.flatMap fun r => dfs T rest (p ++ [r])).length) := by
        have h1 := take_flatMap_le (fun r => dfs T rest (p ++ [r])) zs (k + 1)
        rw [ht.out, List.flatMap_append, List.length_append] at h1
        refine Lib.hid ?_
        simpa using h1
      obtain ⟨Post, hPost⟩ : ∃ Post : World → Prop, Post = fun W => WPost B wr br bt (rows ++ ((zs.take k).flatMap fun r => dfs T rest (p ++ [r])).map (·.1)) (vals ++ ((zs.take k).flatMap fun r => dfs T rest (p ++ [r])).map (·.2)) (dfs T rest (p ++ [r])) (.returned (.tuple #[])) W := ⟨_, rfl⟩
      refine wp_region_closed (by kernel_rfl) (by kernel_rfl) (J5 wr b c A cap p r (.func (.func 43) #[] #[ptr br, ptr bt, ptr bw]) M0 Post [ptr b, .slice A p.length cap, ptr br, ptr bt, ptr bw, undef, undef, undef, .int .i32 r, ptr b, ptr b, .pointer (some ⟨b, 2, none⟩), y12, x13, x14, x15, x16, x17, x18, x19, x20, x21, x22, x23, x24,
        ptr b, ptr b, ptr b, .map M0, .func (.func 63) #[] #[.pointer (some ⟨w.heap.size, 0, none⟩)], .slice (some ⟨ab, off, none⟩) zs.length cap2, .int .i64 zs.length, .int .i64 k, .bool true, .pointer (some ⟨ab, off + k, none⟩), .int .i32 r] u53) ?_ ?_ ?_
      · refine ⟨u36, u37, u38, u39, u40, u41, u42, u43, u44, u45, u46, u47, u48, u49, u50, u51, u52, rfl, fun _ => ?_, (nomatch ·)⟩
        exact { hb := (Below.refl _ _).drew, e0 := (nomatch ·), e1 := (nomatch ·), e2 := (nomatch ·), e3 := (nomatch ·), e4 := (nomatch ·), e5 := (nomatch ·), e6 := (nomatch ·), e7 := (nomatch ·), e8 := (nomatch ·), e9 := (nomatch ·), e10 := (nomatch ·), e11 := (nomatch ·), e12 := (nomatch ·), e13 := (nomatch ·), e14 := (nomatch ·), e15 := (nomatch ·) }
      · intro i o L a w1 ho hL hpre hcl hJ
        have hi : i < 17 := by
          rcases Nat.lt_or_ge i 17 with h | h
          · exact h
          · rw [Array.getElem?_eq_none (by simpa using h)] at ho; cases ho
        obtain ⟨x36, x37, x38, x39, x40, x41, x42, x43, x44, x45, x46, x47, x48, x49, x50, x51, x52, rfl, hJ1, hJ2⟩ := hJ
        have h16 : L 16 = false := by
          cases h : L 16 with
          | false => rfl
          | true =>
            rcases (by omega : i < 16 ∨ i = 16) with h1 | h1
            · have := (hJ2 h).2 i h1; rw [hL] at this; cases this
            · subst h1; rw [hL] at h; cases h
        have hR := hJ1 h16
        have HR5 := Lib.hid hR
        have hBB := hR.hb
        have hbwh : w1.heap[bw]? = some (.cells #[.func (.func 43) #[] #[ptr br, ptr bt, ptr bw]] 84 (0, 0)) := (hBB.block bw (lt_of_heap (HF1.out.heap Hbw.out (.inr (by intro c t f e; cases e; decide))))).trans (HF1.out.heap Hbw.out (.inr (by intro c t f e; cases e; decide)))
        have cbw : w1.cell? ⟨bw, 0, none⟩ = some (.func (.func 43) #[] #[ptr br, ptr bt, ptr bw]) := by
          rw [cell_of_row _ _ _ _ _ _ hbwh]; rfl
        have cM : w1.cell? ⟨b, 0, none⟩ = some (.map M0) := (hBB.cell (p := ⟨b, 0, none⟩) (by have := Hbl.out.1; have := hB1.size; simp only; omega)).trans ((hB1.cell (p := ⟨b, 0, none⟩) (hown b (own_N Hp.out))).trans hm)
        have hRep1 : Rep Li w1 t T := (HF1.out.rep HR.out hown).frame (Fr.of_below hBB Nob) (fun _ _ h => h)
        have clk : (Instr.lookup 74 (.map M0) (.int .i32 r) false).run Try.prog w1 = .ok (ptr c) w1 := by
          have := look_i hRep1 p r
          rw [hcN.out, HM0.out] at this
          exact this
        have hRow1 : RdT w1 A p := (HF1.out.rdT HA.out (by decide)).new hBB
        replace hRep1 := Lib.hid hRep1
        replace hRow1 := Lib.hid hRow1
        replace hbwh := Lib.hid hbwh
        clear hJ1 hJ2 hBB
        rcases (by omega : i = 0 ∨ i = 1 ∨ i = 2 ∨ i = 3 ∨ i = 4 ∨ i = 5 ∨ i = 6 ∨ i = 7 ∨ i = 8 ∨ i = 9 ∨ i = 10 ∨ i = 11 ∨ i = 12 ∨ i = 13 ∨ i = 14 ∨ i = 15 ∨ i = 16) with rfl | rfl | rfl | rfl | rfl | rfl | rfl | rfl | rfl | rfl | rfl | rfl | rfl | rfl | rfl | rfl | rfl
        · cases ho
          clear hR hpre
          unfold fr5
          simp only [List.cons_append, List.nil_append]
          go_simp
          refine ⟨_, _, _, _, _, _, _, _, _, _, _, _, _, _, _, _, _, rfl, fun _ => { HR5.out with e0 := fun _ => rfl }, fun e => absurd (show L 16 = true from e) (by rw [h16]; decide)⟩
        · cases ho
          clear hR hpre
          unfold fr5
          simp only [List.cons_append, List.nil_append]
          go_simp
          refine ⟨_, _, _, _, _, _, _, _, _, _, _, _, _, _, _, _, _, rfl, fun _ => { HR5.out with e1 := fun _ => rfl }, fun e => absurd (show L 16 = true from e) (by rw [h16]; decide)⟩
        · cases ho
          simp [Region.binds] at hpre
          obtain rfl := hR.e1 hpre
          clear hR hpre
          unfold fr5
          simp only [List.cons_append, List.nil_append]
          go_simp
          refine ⟨_, _, _, _, _, _, _, _, _, _, _, _, _, _, _, _, _, rfl, fun _ => { HR5.out with e2 := fun _ => rfl }, fun e => absurd (show L 16 = true from e) (by rw [h16]; decide)⟩
        · cases ho
          simp [Region.binds] at hpre
          obtain rfl := hR.e2 hpre
          clear hR hpre
          unfold fr5
          simp only [List.cons_append, List.nil_append]
          go_simp
          refine ⟨_, _, _, _, _, _, _, _, _, _, _, _, _, _, _, _, _, rfl, fun _ => { HR5.out with e3 := fun _ => rfl }, fun e => absurd (show L 16 = true from e) (by rw [h16]; decide)⟩
        · cases ho
          simp [Region.binds] at hpre
          obtain rfl := hR.e3 hpre
          clear hR hpre
          unfold fr5
          simp only [List.cons_append, List.nil_append]
          go_simp
          refine ⟨_, _, _, _, _, _, _, _, _, _, _, _, _, _, _, _, _, rfl, fun _ => { HR5.out with e4 := fun _ => rfl }, fun e => absurd (show L 16 = true from e) (by rw [h16]; decide)⟩
        · cases ho
          clear hR hpre
          unfold fr5
          simp only [List.cons_append, List.nil_append]
          go_simp
          refine ⟨_, _, _, _, _, _, _, _, _, _, _, _, _, _, _, _, _, rfl, fun _ => { HR5.out with e5 := fun _ => rfl }, fun e => absurd (show L 16 = true from e) (by rw [h16]; decide)⟩
        · cases ho
          simp [Region.binds] at hpre
          obtain rfl := hR.e4 hpre.1
          obtain rfl := hR.e5 hpre.2
          clear hR hpre
          unfold fr5
          simp only [List.cons_append, List.nil_append]
          go_simp
          refine ⟨_, _, _, _, _, _, _, _, _, _, _, _, _, _, _, _, _, rfl, fun _ => { HR5.out with e6 := fun _ => rfl }, fun e => absurd (show L 16 = true from e) (by rw [h16]; decide)⟩
        · cases ho
          clear hR hpre
          unfold fr5
          simp only [List.cons_append, List.nil_append]
          go_simp
          refine ⟨_, _, _, _, _, _, _, _, _, _, _, _, _, _, _, _, _, rfl, fun _ => { HR5.out with e7 := fun _ => rfl }, fun e => absurd (show L 16 = true from e) (by rw [h16]; decide)⟩
        · cases ho
          clear hR hpre
          unfold fr5
          simp only [List.cons_append, List.nil_append]
          go_simp
          refine ⟨_, _, _, _, _, _, _, _, _, _, _, _, _, _, _, _, _, rfl, fun _ => { HR5.out with e8 := fun _ => rfl }, fun e => absurd (show L 16 = true from e) (by rw [h16]; decide)⟩
        · cases ho
          simp [Region.binds] at hpre
          obtain rfl := hR.e8 hpre
          clear hR hpre
          unfold fr5
          simp only [List.cons_append, List.nil_append]
          go_simp
          refine ⟨_, _, _, _, _, _, _, _, _, _, _, _, _, _, _, _, _, rfl, fun _ => { HR5.out with e9 := fun _ => rfl }, fun e => absurd (show L 16 = true from e) (by rw [h16]; decide)⟩
        · cases ho
          clear hR hpre
          unfold fr5
          simp only [List.cons_append, List.nil_append]
          go_simp
          refine ⟨_, _, _, _, _, _, _, _, _, _, _, _, _, _, _, _, _, rfl, fun _ => { HR5.out with e10 := fun _ => rfl }, fun e => absurd (show L 16 = true from e) (by rw [h16]; decide)⟩
        · cases ho
          simp [Region.binds] at hpre
          obtain rfl := hR.e10 hpre
          clear hR hpre
          unfold fr5
          simp only [List.cons_append, List.nil_append]
          go_simp
          refine ⟨_, _, _, _, _, _, _, _, _, _, _, _, _, _, _, _, _, rfl, fun _ => { HR5.out with e11 := fun _ => rfl }, fun e => absurd (show L 16 = true from e) (by rw [h16]; decide)⟩
        · cases ho
          simp [Region.binds] at hpre
          obtain rfl := hR.e7 hpre.1
          obtain rfl := hR.e9 hpre.2.1
          obtain rfl := hR.e11 hpre.2.2
          clear hR hpre
          unfold fr5
          simp only [List.cons_append, List.nil_append]
          go_simp
          refine ⟨_, _, _, _, _, _, _, _, _, _, _, _, _, _, _, _, _, rfl, fun _ => { HR5.out with e12 := fun _ => rfl }, fun e => absurd (show L 16 = true from e) (by rw [h16]; decide)⟩
        · cases ho
          clear hR hpre
          unfold fr5
          simp only [List.cons_append, List.nil_append]
          go_simp
          refine ⟨_, _, _, _, _, _, _, _, _, _, _, _, _, _, _, _, _, rfl, fun _ => { HR5.out with e13 := fun _ => rfl }, fun e => absurd (show L 16 = true from e) (by rw [h16]; decide)⟩
        · cases ho
          simp [Region.binds] at hpre
          obtain rfl := hR.e13 hpre
          have g3 := heap_alloc_eq w1 (.cells #[.int .i32 r] 21)
          have hR2 := HR5.out.new ((Below.refl _ _).alloc (Nat.le_refl _) (.cells #[.int .i32 r] 21))
          clear hR hpre
          unfold fr5
          simp only [List.cons_append, List.nil_append]
          go_simp
          refine ⟨_, _, _, _, _, _, _, _, _, _, _, _, _, _, _, _, _, rfl, fun _ => { hR2 with e14 := fun _ => ⟨_, rfl, g3⟩ }, fun e => absurd (show L 16 = true from e) (by rw [h16]; decide)⟩
        · cases ho
          simp [Region.binds] at hpre
          obtain rfl := hR.e12 hpre.1
          obtain ⟨bk, rfl, g1⟩ := hR.e14 hpre.2
          have hA0 : A = none → p = [] := fun e => by
            have := hn e
            exact List.length_eq_zero_iff.1 (by omega)
          obtain ⟨cap3, w2, hrun, g2, g3, g4⟩ := run_append_one (r := r) hRow1.out.rd hA0 g1 (by omega)
          have hR2 := HR5.out.new g3
          clear hR hpre
          unfold fr5
          simp only [List.cons_append, List.nil_append]
          rw [if_pos (by rfl)]
          refine wp_append_run (.tmp 48) (.tmp 50) 36 rfl rfl rfl hrun ?_
          exact ⟨_, _, _, _, _, _, _, _, _, _, _, _, _, _, _, _, _, rfl, fun _ => { hR2 with e15 := fun _ => ⟨_, _, rfl, g2, g4⟩ }, fun e => absurd (show L 16 = true from e) (by rw [h16]; decide)⟩
        · cases ho
          have h0 : L 0 = true := hpre ⟨0, .data⟩ (by simp) rfl
          have h6 : L 6 = true := hpre ⟨6, .data⟩ (by simp) rfl
          have h15 : L 15 = true := hpre ⟨15, .data⟩ (by simp) rfl
          have h14 : L 14 = true := hcl 15 _ rfl h15 ⟨14, .data⟩ (by simp) rfl
          have h12 : L 12 = true := hcl 15 _ rfl h15 ⟨12, .data⟩ (by simp) rfl
          have h13 : L 13 = true := hcl 14 _ rfl h14 ⟨13, .data⟩ (by simp) rfl
          have h11 : L 11 = true := hcl 12 _ rfl h12 ⟨11, .data⟩ (by simp) rfl
          have h9 : L 9 = true := hcl 12 _ rfl h12 ⟨9, .data⟩ (by simp) rfl
          have h7 : L 7 = true := hcl 12 _ rfl h12 ⟨7, .data⟩ (by simp) rfl
          have h8 : L 8 = true := hcl 9 _ rfl h9 ⟨8, .data⟩ (by simp) rfl
          have h10 : L 10 = true := hcl 11 _ rfl h11 ⟨10, .data⟩ (by simp) rfl
          have h5 : L 5 = true := hcl 6 _ rfl h6 ⟨5, .data⟩ (by simp) rfl
          have h4 : L 4 = true := hcl 6 _ rfl h6 ⟨4, .data⟩ (by simp) rfl
          have h3 : L 3 = true := hcl 4 _ rfl h4 ⟨3, .data⟩ (by simp) rfl
          have h2 : L 2 = true := hcl 3 _ rfl h3 ⟨2, .data⟩ (by simp) rfl
          have h1 : L 1 = true := hcl 2 _ rfl h2 ⟨1, .data⟩ (by simp) rfl
          have hall : Hid (∀ i, i < 16 → L i = true) := by
            intro i hi
            rcases (by omega : i = 0 ∨ i = 1 ∨ i = 2 ∨ i = 3 ∨ i = 4 ∨ i = 5 ∨ i = 6 ∨ i = 7 ∨ i = 8 ∨ i = 9 ∨ i = 10 ∨ i = 11 ∨ i = 12 ∨ i = 13 ∨ i = 14 ∨ i = 15) with rfl | rfl | rfl | rfl | rfl | rfl | rfl | rfl | rfl | rfl | rfl | rfl | rfl | rfl | rfl | rfl <;> assumption
          obtain rfl := hR.e0 h0
          obtain rfl := hR.e6 h6
          obtain ⟨A3, cap3, rfl, g1, g2⟩ := hR.e15 h15
          clear h0 h1 h2 h3 h4 h5 h6 h7 h8 h9 h10 h11 h12 h13 h14 h15
          have hCn := HC1.out.new hR.hb
          have g1l : (p ++ [r]).length = p.length + 1 := by simp
          have hcall := HIH.out r hrm.out w1 c A3 cap3 _ _ _ _ _ hRep1.out hcN.out g1 (fun e => by
            subst e
            obtain ⟨b', o', _, _, hh, _⟩ := g1 0 (by simp)
            cases hh) (by omega) (by omega) hCn hbwh.out (by
              have := Hhl1.out; have := Hle.out; simp only [List.length_append, List.length_map] at *; omega) (by
              have := Hhl2.out; have := Hle.out; simp only [List.length_append, List.length_map] at *; omega)
          rw [g1l] at hcall
          replace hcall := Lib.hid hcall
          clear hR hpre hCn hcl
          unfold fr5
          simp only [List.cons_append, List.nil_append]
          go_simp
          refine hcall.out.mono ?_
          rintro e w2 ⟨rfl, hq1, hq2⟩
          refine ⟨_, _, _, _, _, _, _, _, _, _, _, _, _, _, _, _, _, rfl, (nomatch ·), fun _ => ⟨?_, fun i hi => ?_⟩⟩
          · exact ⟨rfl, hq1, (FB.of_below HR5.out.hb).trans hq2⟩
          · show (decide (i = 16) || L i) = true
            rw [hall.out i hi]; simp
      · rintro L a w1 hall ⟨x36, x37, x38, x39, x40, x41, x42, x43, x44, x45, x46, x47, x48, x49, x50, x51, x52, rfl, hJ1, hJ2⟩
        have hPP := (hJ2 (hall 16 (by decide))).1
        simp only [hPost] at hPP
        obtain ⟨_, ⟨rv3, tv3, rvals3, hC3⟩, hF3⟩ := hPP
        have hk1 : Hid ((∃ rv tv rvals, Coll 43 64 3 B w1 br bt rv tv rvals (vals ++ ((zs.take (k + 1)).flatMap fun r => dfs T rest (p ++ [r])).map (·.2)) (rows ++ ((zs.take (k + 1)).flatMap fun r => dfs T rest (p ++ [r])).map (·.1))) ∧ FB [43, 64, 36, 3] B w w1 ∧ FB [43, 64, 36, 3] B w2 w1) := by
          rw [ht.out, List.flatMap_append]
          exact ⟨⟨rv3, tv3, rvals3, by simpa [List.flatMap_cons] using hC3⟩, HF1.out.trans hF3, HF2.out.trans hF3⟩
        clear hJ1 hJ2 hC3 hF3 hall
        unfold fr5
        simp only [List.cons_append, List.nil_append]
        go_wp2
        exact ⟨⟨k + 1, by omega, by simp, hk1⟩, by simp [intOf]; omega⟩
    · have hkk : k = zs.length := by omega
      subst hkk
      rw [List.take_length] at hC1
      have HP : Hid (WPost B w br bt rows vals (zs.flatMap fun r => dfs T rest (p ++ [r])) (.returned (.tuple #[])) wr) := ⟨rfl, ⟨_, _, _, hC1⟩, hF1⟩
      clear hC1 hF1 hF2
      go_wp2
      go_end0
      rw [hzs.out]
      exact HP.out

theorem bodyPost_mono {P : Program} {fn : Func} {R R' : Ending → World → Prop} (h : ∀ e w, R e w → R' e w) {e : Exit} {a : Act} {w : World} (hq : bodyPost P fn R e a w) : bodyPost P fn R' e a w := by
  cases e <;> simp only [bodyPost] at hq ⊢
  · exact ⟨hq.1, hq.2.imp fun v hv => ⟨hv.1, h _ _ hv.2⟩⟩
  · exact ⟨hq.1, hq.2.imp fun v hv => ⟨hv.1, h _ _ hv.2⟩⟩
  · exact ⟨hq.1, h _ _ hq.2⟩
  · exact h _ _ hq
theorem WPost.front {B : Nat} {w w1 : World} {br bt : Nat} {rows : List (List Int)} {vals : List Value} {p : List Int} {v : Value} {res : List (List Int × Value)} {e : Ending} {w' : World}
    (h : WPost B w1 br bt (rows ++ [p]) (vals ++ [v]) res e w') (hF : FB [43, 64, 36, 3] B w w1) : WPost B w br bt rows vals ([(p, v)] ++ res) e w' := by
  obtain ⟨h1, ⟨rv, tv, rvals, h2⟩, h3⟩ := h
  exact ⟨h1, ⟨rv, tv, rvals, by simpa using h2⟩, hF.trans h3⟩

theorem dfs_succ (T : AT) (n : Nat) (p : List Int) : dfs T (n + 1) p = (match T.f p with | some v => [(p, v)] | none => []) ++ (srt (T.K p)).flatMap fun r => dfs T n (p ++ [r]) := rfl

set_option maxHeartbeats 400000 in
set_option maxRecDepth 100000 in
theorem walk_i {N D : Nat} (hS : SortOk N) (hN : N ≤ 35184372088832) (hD : D ≤ 35184372088000) (t : Nat) (T : AT) (B br bt bw : Nat) (hst : T.Small 35184372088000 N) (hown : ∀ k, T.own k → k < B) (hint : ∀ p v, T.f p = some v → ∃ x, v = .int .i64 x)
    (hdeep : ∀ p, (T.N p).isSome → p.length < D) : ∀ (fuel : Nat) (p : List Int), p.length + fuel = D → WalkOk T t B br bt bw fuel p := by
  intro fuel
  induction fuel with
  | zero =>
    intro p hpD w b A cap rv tv rvals vals rows R hp
    have := hdeep p (by rw [hp]; rfl)
    omega
  | succ n ih =>
    intro p hpD w b A cap rv tv rvals vals rows R hp hA hn hcap hpl hC hbw hl1 hl2
    have IH : ∀ r, r ∈ T.K p → WalkOk T t B br bt bw n (p ++ [r]) := fun r _ => ih _ (by simp; omega)
    rw [dfs_succ] at hl1 hl2 ⊢
    have hbB : b < B := hown b (own_N hp)
    cases hf : T.f p with
    | none =>
      rw [hf] at hl1 hl2
      go_enter Try.func43, Try.ntmps43
      refine wp_seq ?_
      exact head_none w t T p b br bt bw (.slice A p.length cap) (fun a w' => rest43.wp Try.prog (bodyPost Try.prog Try.f43 (WPost B w br bt rows vals ([] ++ (srt (T.K p)).flatMap fun r => dfs T n (p ++ [r])))) a w') (bodyPost Try.prog Try.f43 (WPost B w br bt rows vals ([] ++ (srt (T.K p)).flatMap fun r => dfs T n (p ++ [r])))) R hp hf
        (fun y12 x13 x14 x15 x16 x17 x18 x19 x20 x21 x22 x23 x24 => rest_i hS B w t T p b br bt bw A cap rv tv rvals vals rows n hst hN R hown hp hA hn hcap hC (by omega) hbw IH (by simpa using hl1) (by simpa using hl2) y12 x13 x14 x15 x16 x17 x18 x19 x20 x21 x22 x23 x24)
    | some v =>
      obtain ⟨x, rfl⟩ := hint p v hf
      rw [hf] at hl1 hl2
      go_enter Try.func43, Try.ntmps43
      refine wp_seq ?_
      refine head_some B w t T p b br bt bw A cap x rv tv rvals vals rows (fun a w' => rest43.wp Try.prog (bodyPost Try.prog Try.f43 (WPost B w br bt rows vals ([(p, .int .i64 x)] ++ (srt (T.K p)).flatMap fun r => dfs T n (p ++ [r])))) a w') (bodyPost Try.prog Try.f43 (WPost B w br bt rows vals ([(p, .int .i64 x)] ++ (srt (T.K p)).flatMap fun r => dfs T n (p ++ [r])))) R hp hbB hf hA hn (by omega) hC
        (by simp at hl1; omega) (by simp at hl2; omega) ?_
      intro w1 rv1 tv1 rvals1 y12 x13 x14 x15 x16 x17 x18 x19 x20 x21 x22 x23 x24 hC1 hF
      have h := rest_i hS B w1 t T p b br bt bw A cap rv1 tv1 rvals1 (vals ++ [.int .i64 x]) (rows ++ [p]) n hst hN (hF.rep R hown) hown hp (hF.rdT hA (by decide)) hn hcap hC1 (by omega)
        (hF.heap hbw (.inr (by intro c t f e; cases e; decide))) IH (by simp only [List.length_append, List.length_cons, List.length_nil] at hl1 ⊢; omega) (by simp only [List.length_append, List.length_cons, List.length_nil] at hl2 ⊢; omega) y12 x13 x14 x15 x16 x17 x18 x19 x20 x21 x22 x23 x24
      exact wp_mono h fun e a w' hq => bodyPost_mono (fun e' w'' h' => WPost.front h' hF) hq
end Go.Proofs.Ytioflglfnalcaaa

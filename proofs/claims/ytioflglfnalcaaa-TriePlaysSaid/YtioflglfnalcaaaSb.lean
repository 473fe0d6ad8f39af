/- slices.Sort at int32, few elements: bits.Len of a small number, pdqsortOrdered, Sort. -/
import Derived.Sort.AssemblyPlain
import Derived.Test.YtioflglfnalcaaaSa
namespace Go.Proofs.Ytioflglfnalcaaa
open Go.RowKit

def IntPost (w : World) (e : Ending) (w' : World) : Prop := (∃ n : Int, e = .returned (.int .i64 n)) ∧ w' = w

set_option maxHeartbeats 400000 in
set_option maxRecDepth 100000 in
theorem len64_small (x : Int) (h0 : 0 ≤ x) (hx : x ≤ 12) (w : World) : Calls Try.prog 79 #[.int .u64 x] w (IntPost w) := by
  go_enter Try.func79, Try.ntmps79
  go_wp2
  go_ret
  exact ⟨⟨_, rfl⟩, rfl⟩

set_option maxHeartbeats 400000 in
set_option maxRecDepth 100000 in
theorem len_small (x : Int) (h0 : 0 ≤ x) (hx : x ≤ 12) (w : World) : Calls Try.prog 68 #[.int .u64 x] w (IntPost w) := by
  go_enter Try.func68, Try.ntmps68
  go_wp2_with (go_at_call 79; refine (len64_small _ h0 hx _).mono ?_; rintro e w' ⟨⟨n, rfl⟩, rfl⟩)
  go_ret
  exact ⟨⟨_, rfl⟩, rfl⟩

set_option maxHeartbeats 400000 in
set_option maxRecDepth 100000 in
theorem pdq_small (w : World) (g cap len : Nat) (d : Array Int) (lim : Int) (hd : RowI w g d) (hlen : d.size = len) (hsz : len ≤ 12) :
    Calls Try.prog 67 #[.slice (some ⟨g, 0, none⟩) len cap, .int .i64 0, .int .i64 len, .int .i64 lim] w fun e w' => e = .returned (.tuple #[]) ∧ RowI w' g (Sort.insertionSort Sort.ltInt d 0 len) ∧ Fr (· = g) w w' := by
  have H := Lib.hid (ins_i w g cap len d 0 len hd hlen (by omega) (by omega) (Nat.le_refl _))
  have h12 : (len : Int) ≤ 12 := by omega
  clear hd hlen
  go_enter Try.func67, Try.ntmps67
  go_wp2
  refine wp_loop_rounds 1 ?_
  rw [rounds_succ]
  go_wp2_with (go_at_call 69; refine H.out.mono ?_; rintro e w' ⟨rfl, h1, h2⟩; replace h1 := Lib.hid h1; replace h2 := Lib.hid h2)
  refine bodyPost_ret (results_none rfl _ _ _) rfl ?_
  exact ⟨rfl, h1.out, h2.out⟩

set_option maxHeartbeats 400000 in
set_option maxRecDepth 100000 in
theorem ins_none (w : World) (v : Value) : Calls Try.prog 69 #[v, .int .i64 0, .int .i64 0] w fun e w' => e = .returned (.tuple #[]) ∧ w' = w := by
  go_enter Try.func69, Try.ntmps69
  go_wp2
  refine wp_loop_rounds 1 ?_
  rw [rounds_succ]
  go_wp2
  go_end0
  exact ⟨rfl, rfl⟩

set_option maxHeartbeats 400000 in
set_option maxRecDepth 100000 in
theorem pdq_none (w : World) (v : Value) (lim : Int) :
    Calls Try.prog 67 #[v, .int .i64 0, .int .i64 0, .int .i64 lim] w fun e w' => e = .returned (.tuple #[]) ∧ w' = w := by
  go_enter Try.func67, Try.ntmps67
  go_wp2
  refine wp_loop_rounds 1 ?_
  rw [rounds_succ]
  go_wp2_with (go_at_call 69; refine (ins_none _ _).mono ?_; rintro e w' ⟨rfl, rfl⟩)
  refine bodyPost_ret (results_none rfl _ _ _) rfl ?_
  exact ⟨rfl, rfl⟩

/-- The sorted list. -/
def srt (zs : List Int) : List Int := zs.mergeSort (fun x y => decide (x ≤ y))
theorem srt_perm (zs : List Int) : (srt zs).Perm zs := List.mergeSort_perm _ _
theorem srt_length (zs : List Int) : (srt zs).length = zs.length := (srt_perm zs).length_eq

theorem ins_srt (d : Array Int) : (Sort.insertionSort Sort.ltInt d 0 d.size).toList = srt d.toList := by
  obtain ⟨h1, h2⟩ := Sort.insertionSort_holds (lt := Sort.ltInt) Sort.swo_ltInt d 0 d.size (Nat.zero_le _) (Nat.le_refl _)
  have h := Sort.sorted_unique_holds Sort.swo_ltInt (fun x y h1 h2 => by simp only [Sort.ltInt, decide_eq_false_iff_not] at h1 h2; omega) d _ h1 h2
  rw [h]
  unfold srt
  congr 1
  funext x y
  simp only [Sort.ltInt]
  rw [← decide_not]
  congr 1
  simp

/-- What Sort comes to, for rows of at most so many. -/
def SortOk (N : Nat) : Prop := ∀ (w : World) (g cap : Nat) (d : Array Int), RowI w g d → d.size ≤ N →
  Calls Try.prog 62 #[.slice (some ⟨g, 0, none⟩) d.size cap] w fun e w' => e = .returned (.tuple #[]) ∧ RowI w' g (srt d.toList).toArray ∧ Fr (· = g) w w'

set_option maxHeartbeats 400000 in
theorem sort_small : SortOk 12 := by
  intro w g cap d hd hsz
  obtain ⟨len, hlen⟩ : ∃ len, d.size = len := ⟨_, rfl⟩
  have e : Sort.insertionSort Sort.ltInt d 0 len = (srt d.toList).toArray := by rw [← hlen, ← ins_srt]
  have H := fun lim => pdq_small w g cap len d lim hd hlen (by omega)
  rw [e] at H
  have H := Lib.hid H
  rw [hlen] at hsz ⊢
  have g0 : (0 : Int) ≤ (len : Int) := by omega
  have g1 : (len : Int) ≤ 12 := by omega
  clear hd hlen e
  generalize (srt d.toList).toArray = ds at H ⊢
  go_enter Try.func62, Try.ntmps62
  go_wp2_with (first
    | (go_at_call 68; refine (len_small _ g0 g1 _).mono ?_; rintro e w' ⟨⟨n, rfl⟩, rfl⟩)
    | (go_at_call 67; refine (H.out _).mono ?_; rintro e w' ⟨rfl, h1, h2⟩; replace h1 := Lib.hid h1; replace h2 := Lib.hid h2))
  go_end0
  exact ⟨rfl, h1.out, h2.out⟩

set_option maxHeartbeats 400000 in
theorem sort_none (w : World) : Calls Try.prog 62 #[.slice none 0 0] w fun e w' => e = .returned (.tuple #[]) ∧ w' = w := by
  go_enter Try.func62, Try.ntmps62
  go_wp2_with (first
    | (go_at_call 68; refine (len_small 0 (by omega) (by omega) _).mono ?_; rintro e w' ⟨⟨n, rfl⟩, rfl⟩)
    | (go_at_call 67; refine (pdq_none _ _ _).mono ?_; rintro e w' ⟨rfl, rfl⟩))
  go_end0
  exact ⟨rfl, rfl⟩

/-- A slice value that reads as a list, in new memory. -/
def NewL (w : World) (zs : List Int) (e : Ending) (w' : World) : Prop :=
  ∃ A cap, e = .returned (.slice A zs.length cap) ∧ zs.length ≤ cap ∧ (A = none → cap = 0) ∧ RdT w' A zs ∧ (∀ ad, A = some ad → w.heap.size ≤ ad.block ∧ ad.block < w'.heap.size) ∧ Below w.heap.size w w'

theorem rowI_of_own {w : World} {base : Nat} {n cap g : Nat} {xs : List Int} (h : w.ownsRow base 21 1 (.slice (some ⟨g, 0, none⟩) n cap) xs.length (xs.map enc32)) : RowI w g xs.toArray := by
  rcases h.2 with ⟨h0, _⟩ | ⟨g', cap', cur, h0, _, hg, _, _, _, hx⟩
  · cases h0
  · cases h0
    refine ⟨(cur.toList.drop (xs.length * 1)).toArray, ?_⟩
    rw [hg]
    congr 2
    apply Array.toList_inj.1
    simp only [Array.toList_append]
    rw [← hx]
    simp

theorem rdT_of_rowI {w : World} {g : Nat} {zs : List Int} (h : RowI w g zs.toArray) : RdT w (some ⟨g, 0, none⟩) zs := fun k hk => by
  obtain ⟨rest, h⟩ := h
  exact ⟨g, 0, _, _, rfl, h, by simp [List.getD, hk, Array.getElem?_append, enc32]⟩

set_option maxHeartbeats 400000 in
theorem sorted_i {N : Nat} (hS : SortOk N) (Bm : Nat) (mo : Option Nat) (es : List (Int × Value)) (hN : es.length ≤ N) (hl : es.length ≤ 35184372088832) (w : World) (hBm : Bm < w.heap.size) (hm : w.cell? ⟨Bm, 0, none⟩ = some (.map mo)) (hes : MapIs w mo es) :
    Calls Try.prog 45 #[.func (.func 63) #[] #[.pointer (some ⟨Bm, 0, none⟩)]] w (NewL w (srt (es.map (·.1)))) := by
  have H := Lib.hid (collect_i Bm mo es hl w hBm hm hes)
  have HS := Lib.hid hS
  clear hm hes hS
  go_enter Try.func45, Try.ntmps45
  go_wp2_with fail
  refine H.out.mono ?_
  rintro e w1 ⟨v, xs, rfl, hp, ho, hnil, hB⟩
  have hsz := hp.length_eq
  have hsrt : srt xs = srt (es.map (·.1)) := by
    unfold srt
    exact List.Perm.eq_of_pairwise (le := fun x y => x ≤ y) (by intros; omega) (by simpa using List.pairwise_mergeSort (le := fun x y : Int => decide (x ≤ y)) (by simp; omega) (by simp; omega) xs)
      (by simpa using List.pairwise_mergeSort (le := fun x y : Int => decide (x ≤ y)) (by simp; omega) (by simp; omega) (es.map (·.1))) ((List.mergeSort_perm _ _).trans (hp.trans (List.mergeSort_perm _ _).symm))
  rcases ho.2 with ⟨rfl, h0⟩ | ⟨g, cap, cur, rfl, hg1, hg2, hg3, hg4, _, _⟩
  · have hx : xs = [] := hnil.1 rfl
    subst hx
    have H2 : Hid (NewL w (srt (es.map (·.1))) (.returned (.slice none 0 0)) w1) := by
      rw [← hsrt]
      exact ⟨none, 0, by simp [srt], by simp [srt], fun _ => rfl, fun k hk => by simp [srt] at hk, by simp, hB⟩
    clear hp ho hnil hB hsrt hsz H HS
    go_wp2_with (go_at_call 62; refine (sort_none _).mono ?_; rintro e w' ⟨rfl, rfl⟩)
    go_ret
    exact H2
  · have hrow := rowI_of_own ho
    have hl2 : xs.length = es.length := by simpa using hsz
    have HSo := HS.out w1 g cap xs.toArray hrow (by simpa using (by omega : xs.length ≤ N))
    simp only [List.size_toArray] at HSo
    rw [hsrt] at HSo
    have hlen : (srt (es.map (·.1))).length = xs.length := by rw [srt_length]; exact hsz.symm
    have HSo := Lib.hid HSo
    have hgl := lt_of_heap hg2
    have hfin : ∀ w2, RowI w2 g (srt (es.map (·.1))).toArray → Fr (· = g) w1 w2 → NewL w (srt (es.map (·.1))) (.returned (.slice (some ⟨g, 0, none⟩) xs.length cap)) w2 := fun w2 h1 h2 => by
      refine ⟨_, cap, by rw [hlen], by rw [hlen]; exact hg3, (by simp), rdT_of_rowI h1, fun ad e => ?_, ?_⟩
      · cases e; exact ⟨hg1, Nat.lt_of_lt_of_le hgl h2.size⟩
      · exact hB.trans (h2.below hB.size (fun k e => by rw [e]; exact hg1))
    replace hfin := Lib.hid hfin
    clear hp ho hnil hB hsrt hsz H HS hg1 hg2 hg3 hg4 hrow hl2 hlen hgl hN hl
    generalize hz : srt (es.map (·.1)) = zs at *
    replace hz := Lib.hid hz
    generalize xs.length = m at *
    go_wp2_with (go_at_call 62; refine HSo.out.mono ?_; rintro e w2 ⟨rfl, h1, h2⟩; replace h1 := Lib.hid h1; replace h2 := Lib.hid h2)
    go_ret
    rw [hz.out]
    exact hfin.out _ h1.out h2.out
end Go.Proofs.Ytioflglfnalcaaa

/- maps.Keys and its iterator, at a map of a trie's node. -/
import Derived.RangeFuncNested
import Derived.RangeFuncBound
import Derived.RangeFuncCalls
import Derived.RangeFuncLeaves
import Derived.Shelf.Abstract
import Derived.Shelf.RegionOpen
import Derived.OwnWalkIn
import Derived.TacticsInMore
import Derived.LoopNIn
import Derived.LoopIn
import Derived.Test.YtioflglfnalcaaaIter
import Derived.Test.YtioflglfnalcaaaWd
namespace Go.Proofs.Ytioflglfnalcaaa
open Go.RowKit Go.Shelf
attribute [local go_sem] Oper.semAt_some

def enc32 (x : Int) : Value := .int .i32 x

/-- A map value whose entries are l: nil, or a block. -/
def MapIs (w : World) (mo : Option Nat) (l : List (Int × Value)) : Prop :=
  match mo with
  | none => l = []
  | some m => w.heap[m]? = some (.map (ents 0 l).toArray l.length)

def cameKeys (l : List (Int × Value)) (seen : List Nat) : List Int := seen.map fun i => (l.getD i (0, .bool false)).1

theorem came_perm {l : List (Int × Value)} {seen : List Nat} (h : seen.Perm (List.range l.length)) : (cameKeys l seen).Perm (l.map (·.1)) := by
  have h1 := h.map fun i => (l.getD i (0, .bool false)).1
  have h2 : ((List.range l.length).map fun i => (l.getD i (0, .bool false)).1) = l.map (·.1) := by
    apply List.ext_getElem (by simp)
    intro i h1 h2
    simp at h1
    simp [List.getD, h1]
  rw [h2] at h1
  exact h1

set_option maxRecDepth 100000 in
set_option maxHeartbeats 1000000 in
theorem keys1_i (n : Nat) (hn : 1 ≤ n) (l Bm : Nat) (mo : Option Nat) (es : List (Int × Value)) (J Jx : List Int → World → Prop)
    (hY : ∀ pre x W, J pre W → pre.length < es.length → YieldAt Fence.wide (n - 1) Try.prog l #[enc32 x] W fun e W' =>
      (e = .returned (.bool true) ∧ J (pre ++ [x]) W' ∧ KeepsWalks W W') ∨ (e = .returned (.bool false) ∧ Jx (pre ++ [x]) W'))
    (W : World) (hJ : AbidesFrom W.heap.size J) (hm : W.cell? ⟨Bm, 0, none⟩ = some (.map mo)) (hes : MapIs W mo es) (h0 : J [] W) :
    CallsIn Fence.wide n Try.prog 63 #[.func (.yield l) #[] #[], .pointer (some ⟨Bm, 0, none⟩)] W fun e W' => (∃ v, e = .returned v) ∧
      ((∃ xs : List Int, xs.Perm (es.map (·.1)) ∧ J xs W') ∨ (∃ pre : List Int, True ∧ Jx pre W')) := by
  cases mo with
  | none =>
    have he : es = [] := hes
    subst he
    have hrun := run_range_nilMap (P := Try.prog) W 74 21 85 Try.underlying74
    have hnx := run_next_nilMap (P := Try.prog) W 0 0 0 #[]
    have hJ0 : Hid (J [] (W.alloc (.mapIter none 0 #[] 0))) := hJ [] W _ none h0 (World.grownBy_alloc W _ none) (fun r e => by cases e)
    clear hes hJ hY h0
    refine callsIn_of_wp Try.func63 rfl trivial ?_ rfl
    simp only [Try.ntmps63, List.size_toArray, List.length_cons, List.length_nil, Nat.reduceAdd, Nat.reduceSub, Array.replicate_succ, Array.replicate_zero, List.push_toArray, List.append_toArray, List.nil_append, List.cons_append]
    gi_wp2
    gi_loopw [3] (fun _ wr => wr = W.alloc (.mapIter none 0 #[] 0)) (fun _ wr => 0)
    case atStart => rfl
    case round =>
      subst hrel
      gi_wp2
      go_end0
      exact ⟨⟨_, rfl⟩, .inl ⟨[], by simp, hJ0.out⟩⟩
  | some m =>
    have hme : W.heap[m]? = some (.map (ents 0 es).toArray es.length) := hes
    have hrun := run_range_ents (P := Try.prog) Try.underlying74 hme
    have hI0 := Lib.hid (iter_new hme)
    have hJ0 : Hid (J [] (W.alloc (.mapIter (some m) es.length #[] es.length))) := hJ [] W _ none h0 (World.grownBy_alloc W _ none) (fun r e => by cases e)
    have HJ := Lib.hid hJ
    have HY := Lib.hid hY
    clear hme hes hJ hY h0
    refine callsIn_of_wp Try.func63 rfl trivial ?_ rfl
    simp only [Try.ntmps63, List.size_toArray, List.length_cons, List.length_nil, Nat.reduceAdd, Nat.reduceSub, Array.replicate_succ, Array.replicate_zero, List.push_toArray, List.append_toArray, List.nil_append, List.cons_append]
    gi_wp2
    gi_loopw [3] (fun _ wr => ∃ seen : List Nat, Hid (Iter wr W.heap.size m es seen) ∧ Hid (J (cameKeys es seen) wr)) (fun _ wr => es.length - cameOf wr W.heap.size)
    case atStart => exact ⟨[], hI0, hJ0⟩
    case round =>
      obtain ⟨seen, hI, hJs⟩ := hrel
      rcases run_next_ents (P := Try.prog) 0 hI.out with ⟨hlen, hnx⟩ | ⟨i, hi, hns, w2, hnx, hg, hI2⟩
      · have hP := Lib.hid (came_perm (seen_perm hI.out.nodup hI.out.lt hlen))
        clear hlen
        gi_wp2
        go_end0
        exact ⟨⟨_, rfl⟩, .inl ⟨_, hP.out, hJs.out⟩⟩
      · have hen := run_entry_ents (P := Try.prog) hI2 hi
        have hcl : (cameKeys es seen).length < es.length := by
          have := seen_le hI2.nodup hI2.lt
          simp at this
          simp [cameKeys]; omega
        have hJ2 : J (cameKeys es seen) w2 := HJ.out _ wr w2 (some W.heap.size) hJs.out hg (fun r e => by cases e; exact ⟨Nat.le_refl _, _, hI.out.iter, rfl⟩)
        have hck : cameKeys es (seen ++ [i]) = cameKeys es seen ++ [(es[i]).1] := by simp [cameKeys, List.getD, hi]
        obtain ⟨fn, tmps, assign, body, hy, hR⟩ := HY.out (cameKeys es seen) (es[i]).1 w2 hJ2 hcl
        have hmeas : Hid (es.length - (seen.length + 1) < es.length - seen.length) := by
          have := seen_le hI2.nodup hI2.lt
          simp at this
          unfold Hid; omega
        have HI2 := Lib.hid hI2
        have HR := Lib.hid hR
        have Hck := Lib.hid hck
        clear hI2 hR hck hJ2 hcl hg hns
        simp only [enc32] at hy
        generalize (es[i]).1 = x at hnx hen hy HR Hck
        generalize (es[i]).2 = v at hnx hen
        gi_wp2
        refine HR.out.mono ?_
        rintro e W3 (⟨rfl, hJ3, hk3⟩ | ⟨rfl, hJx3⟩)
        · replace hJ3 := Lib.hid hJ3
          have hI3 := Lib.hid (HI2.out.walks hk3)
          clear hk3
          gi_wp2
          go_roundw
          case rel => exact ⟨seen ++ [i], hI3, by rw [Hck.out]; exact hJ3⟩
          case measure => rw [hI3.out.came, hI.out.came]; simpa using hmeas.out
        · replace hJx3 := Lib.hid hJx3
          gi_wp2
          refine bodyPost_ret (results_none rfl _ _ _) rfl ?_
          exact ⟨⟨_, rfl⟩, .inr ⟨_, trivial, hJx3.out⟩⟩
end Go.Proofs.Ytioflglfnalcaaa

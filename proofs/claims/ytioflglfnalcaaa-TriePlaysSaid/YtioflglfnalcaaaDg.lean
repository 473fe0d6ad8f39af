/- How many rows Below lists: no more than there are. -/
import Derived.Test.YtioflglfnalcaaaDf
namespace Go.Proofs.Ytioflglfnalcaaa

theorem dfs_le_ps {T : AT} {t : Nat} (ok : T.Ok t) (n : Nat) (p : List Int) (hd : ∀ q, (T.N q).isSome → q.length < p.length + n) (hp : (T.N p).isSome) : (dfs T n p).length ≤ T.ps.length := by
  have h1 : ((dfs T n p).map (·.1)).Nodup := by
    rw [List.Nodup, List.pairwise_map]
    refine (dfs_sorted ok.nodup n p).imp ?_
    intro x y h e
    rw [e] at h
    exact lx_irrefl _ h
  have h2 := nodup_le (l' := T.ps) h1 fun q hq => by
    obtain ⟨⟨q', v⟩, hx, rfl⟩ := List.mem_map.1 hq
    exact (ok.psm q').2 (by rw [((dfs_mem ok n p hd hp q' v).1 hx).1]; rfl)
  simpa using h2

theorem below_le_ps {T : AT} {t D : Nat} (ok : T.Ok t) (hd : ∀ q, (T.N q).isSome → q.length < D) (zs : List Int) : (belowRes T D zs).length ≤ T.ps.length := by
  unfold belowRes
  cases hz : T.N zs with
  | none => simp
  | some b =>
    have h := hd zs (by rw [hz]; rfl)
    exact dfs_le_ps ok _ _ (fun q hq => by have := hd q hq; omega) (by rw [hz]; rfl)
end Go.Proofs.Ytioflglfnalcaaa
